/-
  Texts of this family, one behind the other: Sh1.
-/
import Derived.Test.YtgmcalaliipajaaGreatDoorAC1
import Derived.Test.YtgmcalaliipajaaGreatDoorProg
noncomputable section
set_option linter.unusedVariables false
set_option linter.unusedSimpArgs false
set_option maxRecDepth 10000
namespace Sx
section
set_option maxRecDepth 100000
open Go Go.Proofs
structure Qi where
 A : Sl
 DA : Sl
 B : Sl
 DB : Sl
 On : Sl
def Qi.c (x : Qi) : List Value := [slv x.A, slv x.DA, slv x.B, slv x.DB, slv x.On]
def Qi.zero : Qi := ⟨Sl.nil, Sl.nil, Sl.nil, Sl.nil, Sl.nil⟩
structure Qb where
 Kind : Int
 N : Int
 S : Str
 L : Sl
def Qb.c (x : Qb) : List Value := [.int .u8 x.Kind, .int .i64 x.N, sv x.S, slv x.L]
def Qb.zero : Qb := ⟨0, 0, [], Sl.nil⟩
structure Qe where
 was_ : Sl
 add_ : Sl
 is_ : Sl
def Qe.c (x : Qe) : List Value := [slv x.was_, slv x.add_, slv x.is_]
def Qe.zero : Qe := ⟨Sl.nil, Sl.nil, Sl.nil⟩
structure Qc where
 places_ : Sl
def Qc.c (x : Qc) : List Value := [slv x.places_]
def Qc.zero : Qc := ⟨Sl.nil⟩
structure Qa where
 Row : Sl
 N : Int
def Qa.c (x : Qa) : List Value := [slv x.Row, .int .i64 x.N]
def Qa.zero : Qa := ⟨Sl.nil, 0⟩
structure Qg where
 Left : Int
 Right : Int
def Qg.c (x : Qg) : List Value := [.int .i64 x.Left, .int .i64 x.Right]
def Qg.zero : Qg := ⟨0, 0⟩
structure Qd where
 from_ : Sl
 to_ : Option (Nat × Nat)
def Qd.c (x : Qd) : List Value := [slv x.from_, pv x.to_]
def Qd.zero : Qd := ⟨Sl.nil, none⟩
structure Qf where
 l_ : Sl
 do_ : Value
def Qf.c (x : Qf) : List Value := [slv x.l_, x.do_]
def Qf.zero : Qf := ⟨Sl.nil, .nilFunc⟩
structure Q7 where
 lo_ : Int
 hi_ : Int
def Q7.c (x : Q7) : List Value := [.int .u8 x.lo_, .int .u8 x.hi_]
def Q7.zero : Q7 := ⟨0, 0⟩
theorem Qgi : CallOk Tryz.prog 8 := ⟨⟨_, Tryz.func8, rfl, by decide +kernel⟩⟩
theorem QfG : CallOk Tryz.prog 9 := ⟨⟨_, Tryz.func9, rfl, by decide +kernel⟩⟩
theorem Qcr : CallOk Tryz.prog 10 := ⟨⟨_, Tryz.func10, rfl, by decide +kernel⟩⟩
theorem Qjs : CallOk Tryz.prog 11 := ⟨⟨_, Tryz.func11, rfl, by decide +kernel⟩⟩
theorem Qdc : CallOk Tryz.prog 12 := ⟨⟨_, Tryz.func12, rfl, by decide +kernel⟩⟩
theorem Qgk : CallOk Tryz.prog 13 := ⟨⟨_, Tryz.func13, rfl, by decide +kernel⟩⟩
theorem Qeq : CallOk Tryz.prog 14 := ⟨⟨_, Tryz.func14, rfl, by decide +kernel⟩⟩
theorem Qdb : CallOk Tryz.prog 15 := ⟨⟨_, Tryz.func15, rfl, by decide +kernel⟩⟩
theorem Qgj : CallOk Tryz.prog 16 := ⟨⟨_, Tryz.func16, rfl, by decide +kernel⟩⟩
theorem Qcg : CallOk Tryz.prog 17 := ⟨⟨_, Tryz.func17, rfl, by decide +kernel⟩⟩
theorem Qeu : CallOk Tryz.prog 18 := ⟨⟨_, Tryz.func18, rfl, by decide +kernel⟩⟩
theorem Qci : CallOk Tryz.prog 19 := ⟨⟨_, Tryz.func19, rfl, by decide +kernel⟩⟩
theorem Qch : CallOk Tryz.prog 20 := ⟨⟨_, Tryz.func20, rfl, by decide +kernel⟩⟩
theorem QkE : CallOk Tryz.prog 22 := ⟨⟨_, Tryz.func22, rfl, by decide +kernel⟩⟩
theorem QkD : CallOk Tryz.prog 23 := ⟨⟨_, Tryz.func23, rfl, by decide +kernel⟩⟩
theorem QcL : CallOk Tryz.prog 27 := ⟨⟨_, Tryz.func27, rfl, by decide +kernel⟩⟩
theorem Qcs : CallOk Tryz.prog 28 := ⟨⟨_, Tryz.func28, rfl, by decide +kernel⟩⟩
theorem Qa1 : CallOk Tryz.prog 29 := ⟨⟨_, Tryz.func29, rfl, by decide +kernel⟩⟩
theorem QcK : CallOk Tryz.prog 30 := ⟨⟨_, Tryz.func30, rfl, by decide +kernel⟩⟩
theorem Qe7 : CallOk Tryz.prog 31 := ⟨⟨_, Tryz.func31, rfl, by decide +kernel⟩⟩
theorem QdS : CallOk Tryz.prog 32 := ⟨⟨_, Tryz.func32, rfl, by decide +kernel⟩⟩
theorem Q0 : CallOk Tryz.prog 33 := ⟨⟨_, Tryz.func33, rfl, by decide +kernel⟩⟩
theorem Qep : CallOk Tryz.prog 34 := ⟨⟨_, Tryz.func34, rfl, by decide +kernel⟩⟩
theorem Qln : CallOk Tryz.prog 35 := ⟨⟨_, Tryz.func35, rfl, by decide +kernel⟩⟩
theorem QdU : CallOk Tryz.prog 36 := ⟨⟨_, Tryz.func36, rfl, by decide +kernel⟩⟩
theorem QgP : CallOk Tryz.prog 37 := ⟨⟨_, Tryz.func37, rfl, by decide +kernel⟩⟩
theorem Qet : CallOk Tryz.prog 38 := ⟨⟨_, Tryz.func38, rfl, by decide +kernel⟩⟩
theorem QfH : CallOk Tryz.prog 39 := ⟨⟨_, Tryz.func39, rfl, by decide +kernel⟩⟩
theorem Qeo : CallOk Tryz.prog 40 := ⟨⟨_, Tryz.func40, rfl, by decide +kernel⟩⟩
theorem QkF : CallOk Tryz.prog 41 := ⟨⟨_, Tryz.func41, rfl, by decide +kernel⟩⟩
theorem QgO : CallOk Tryz.prog 42 := ⟨⟨_, Tryz.func42, rfl, by decide +kernel⟩⟩
theorem QbP : CallOk Tryz.prog 43 := ⟨⟨_, Tryz.func43, rfl, by decide +kernel⟩⟩
theorem Qd2 : CallOk Tryz.prog 44 := ⟨⟨_, Tryz.func44, rfl, by decide +kernel⟩⟩
theorem QeE : CallOk Tryz.prog 45 := ⟨⟨_, Tryz.func45, rfl, by decide +kernel⟩⟩
theorem QdX : CallOk Tryz.prog 46 := ⟨⟨_, Tryz.func46, rfl, by decide +kernel⟩⟩
theorem QiM : CallOk Tryz.prog 47 := ⟨⟨_, Tryz.func47, rfl, by decide +kernel⟩⟩
theorem Qa2 : CallOk Tryz.prog 48 := ⟨⟨_, Tryz.func48, rfl, by decide +kernel⟩⟩
theorem QgU : CallOk Tryz.prog 49 := ⟨⟨_, Tryz.func49, rfl, by decide +kernel⟩⟩
theorem Qe6 : CallOk Tryz.prog 50 := ⟨⟨_, Tryz.func50, rfl, by decide +kernel⟩⟩
theorem Qfc : CallOk Tryz.prog 51 := ⟨⟨_, Tryz.func51, rfl, by decide +kernel⟩⟩
theorem QmU : CallOk Tryz.prog 52 := ⟨⟨_, Tryz.func52, rfl, by decide +kernel⟩⟩
theorem QfF : CallOk Tryz.prog 53 := ⟨⟨_, Tryz.func53, rfl, by decide +kernel⟩⟩
theorem QeC : CallOk Tryz.prog 54 := ⟨⟨_, Tryz.func54, rfl, by decide +kernel⟩⟩
theorem Qbw : CallOk Tryz.prog 55 := ⟨⟨_, Tryz.func55, rfl, by decide +kernel⟩⟩
theorem Qlp : CallOk Tryz.prog 56 := ⟨⟨_, Tryz.func56, rfl, by decide +kernel⟩⟩
theorem Qan : CallOk Tryz.prog 57 := ⟨⟨_, Tryz.func57, rfl, by decide +kernel⟩⟩
theorem QhM : CallOk Tryz.prog 58 := ⟨⟨_, Tryz.func58, rfl, by decide +kernel⟩⟩
theorem QgQ : CallOk Tryz.prog 59 := ⟨⟨_, Tryz.func59, rfl, by decide +kernel⟩⟩
theorem QhN : CallOk Tryz.prog 60 := ⟨⟨_, Tryz.func60, rfl, by decide +kernel⟩⟩
theorem QgN : CallOk Tryz.prog 61 := ⟨⟨_, Tryz.func61, rfl, by decide +kernel⟩⟩
theorem QgK : CallOk Tryz.prog 62 := ⟨⟨_, Tryz.func62, rfl, by decide +kernel⟩⟩
theorem QfJ : CallOk Tryz.prog 63 := ⟨⟨_, Tryz.func63, rfl, by decide +kernel⟩⟩
theorem QdC : CallOk Tryz.prog 64 := ⟨⟨_, Tryz.func64, rfl, by decide +kernel⟩⟩
theorem Qa9 : CallOk Tryz.prog 65 := ⟨⟨_, Tryz.func65, rfl, by decide +kernel⟩⟩
theorem Qlo : CallOk Tryz.prog 66 := ⟨⟨_, Tryz.func66, rfl, by decide +kernel⟩⟩
theorem Q3 : CallOk Tryz.prog 67 := ⟨⟨_, Tryz.func67, rfl, by decide +kernel⟩⟩
theorem QjA : CallOk Tryz.prog 68 := ⟨⟨_, Tryz.func68, rfl, by decide +kernel⟩⟩
theorem QiN : CallOk Tryz.prog 69 := ⟨⟨_, Tryz.func69, rfl, by decide +kernel⟩⟩
theorem QaI : CallOk Tryz.prog 70 := ⟨⟨_, Tryz.func70, rfl, by decide +kernel⟩⟩
theorem QjB : CallOk Tryz.prog 71 := ⟨⟨_, Tryz.func71, rfl, by decide +kernel⟩⟩
theorem QeF : CallOk Tryz.prog 72 := ⟨⟨_, Tryz.func72, rfl, by decide +kernel⟩⟩
theorem QiO : CallOk Tryz.prog 73 := ⟨⟨_, Tryz.func73, rfl, by decide +kernel⟩⟩
theorem QkH : CallOk Tryz.prog 74 := ⟨⟨_, Tryz.func74, rfl, by decide +kernel⟩⟩
theorem Qjv : CallOk Tryz.prog 75 := ⟨⟨_, Tryz.func75, rfl, by decide +kernel⟩⟩
theorem QeD : CallOk Tryz.prog 76 := ⟨⟨_, Tryz.func76, rfl, by decide +kernel⟩⟩
theorem QiK : CallOk Tryz.prog 77 := ⟨⟨_, Tryz.func77, rfl, by decide +kernel⟩⟩
theorem Qjw : CallOk Tryz.prog 78 := ⟨⟨_, Tryz.func78, rfl, by decide +kernel⟩⟩
theorem QgS : CallOk Tryz.prog 79 := ⟨⟨_, Tryz.func79, rfl, by decide +kernel⟩⟩
theorem Qjz : CallOk Tryz.prog 80 := ⟨⟨_, Tryz.func80, rfl, by decide +kernel⟩⟩
theorem Qbo : CallOk Tryz.prog 81 := ⟨⟨_, Tryz.func81, rfl, by decide +kernel⟩⟩
theorem Qb2 : CallOk Tryz.prog 82 := ⟨⟨_, Tryz.func82, rfl, by decide +kernel⟩⟩
theorem QhO : CallOk Tryz.prog 83 := ⟨⟨_, Tryz.func83, rfl, by decide +kernel⟩⟩
theorem QkI : CallOk Tryz.prog 84 := ⟨⟨_, Tryz.func84, rfl, by decide +kernel⟩⟩
theorem QgT : CallOk Tryz.prog 85 := ⟨⟨_, Tryz.func85, rfl, by decide +kernel⟩⟩
theorem QbQ : CallOk Tryz.prog 86 := ⟨⟨_, Tryz.func86, rfl, by decide +kernel⟩⟩
theorem QiI : CallOk Tryz.prog 87 := ⟨⟨_, Tryz.func87, rfl, by decide +kernel⟩⟩
theorem Qm : CallOk Tryz.prog 88 := ⟨⟨_, Tryz.func88, rfl, by decide +kernel⟩⟩
theorem Qr : CallOk Tryz.prog 89 := ⟨⟨_, Tryz.func89, rfl, by decide +kernel⟩⟩
theorem QiJ : CallOk Tryz.prog 90 := ⟨⟨_, Tryz.func90, rfl, by decide +kernel⟩⟩
theorem Qfa : CallOk Tryz.prog 91 := ⟨⟨_, Tryz.func91, rfl, by decide +kernel⟩⟩
theorem QfD : CallOk Tryz.prog 92 := ⟨⟨_, Tryz.func92, rfl, by decide +kernel⟩⟩
theorem Qjy : CallOk Tryz.prog 93 := ⟨⟨_, Tryz.func93, rfl, by decide +kernel⟩⟩
theorem QdV : CallOk Tryz.prog 94 := ⟨⟨_, Tryz.func94, rfl, by decide +kernel⟩⟩
theorem Qe8 : CallOk Tryz.prog 95 := ⟨⟨_, Tryz.func95, rfl, by decide +kernel⟩⟩
theorem QkG : CallOk Tryz.prog 96 := ⟨⟨_, Tryz.func96, rfl, by decide +kernel⟩⟩
theorem Qes : CallOk Tryz.prog 97 := ⟨⟨_, Tryz.func97, rfl, by decide +kernel⟩⟩
theorem Qfb : CallOk Tryz.prog 98 := ⟨⟨_, Tryz.func98, rfl, by decide +kernel⟩⟩
theorem QiH : CallOk Tryz.prog 99 := ⟨⟨_, Tryz.func99, rfl, by decide +kernel⟩⟩
theorem Qde : CallOk Tryz.prog 100 := ⟨⟨_, Tryz.func100, rfl, by decide +kernel⟩⟩
theorem Q9 : CallOk Tryz.prog 101 := ⟨⟨_, Tryz.func101, rfl, by decide +kernel⟩⟩
theorem Qz : CallOk Tryz.prog 102 := ⟨⟨_, Tryz.func102, rfl, by decide +kernel⟩⟩
theorem Qjx : CallOk Tryz.prog 103 := ⟨⟨_, Tryz.func103, rfl, by decide +kernel⟩⟩
theorem Q6 : CallOk Tryz.prog 104 := ⟨⟨_, Tryz.func104, rfl, by decide +kernel⟩⟩
theorem QiL : CallOk Tryz.prog 105 := ⟨⟨_, Tryz.func105, rfl, by decide +kernel⟩⟩
theorem QhC : CallOk Tryz.prog 106 := ⟨⟨_, Tryz.func106, rfl, by decide +kernel⟩⟩
theorem Qbd : CallOk Tryz.prog 107 := ⟨⟨_, Tryz.func107, rfl, by decide +kernel⟩⟩
theorem QcB : CallOk Tryz.prog 108 := ⟨⟨_, Tryz.func108, rfl, by decide +kernel⟩⟩
theorem Qjt : CallOk Tryz.prog 110 := ⟨⟨_, Tryz.func110, rfl, by decide +kernel⟩⟩
theorem Qlm : CallOk Tryz.prog 111 := ⟨⟨_, Tryz.func111, rfl, by decide +kernel⟩⟩
theorem Qbx : CallOk Tryz.prog 112 := ⟨⟨_, Tryz.func112, rfl, by decide +kernel⟩⟩
theorem Qb0 : CallOk Tryz.prog 113 := ⟨⟨_, Tryz.func113, rfl, by decide +kernel⟩⟩
theorem Qew : CallOk Tryz.prog 114 := ⟨⟨_, Tryz.func114, rfl, by decide +kernel⟩⟩
theorem Qd4 : CallOk Tryz.prog 115 := ⟨⟨_, Tryz.func115, rfl, by decide +kernel⟩⟩
theorem Qev : CallOk Tryz.prog 116 := ⟨⟨_, Tryz.func116, rfl, by decide +kernel⟩⟩
theorem Qd3 : CallOk Tryz.prog 117 := ⟨⟨_, Tryz.func117, rfl, by decide +kernel⟩⟩
theorem QdW : CallOk Tryz.prog 118 := ⟨⟨_, Tryz.func118, rfl, by decide +kernel⟩⟩
theorem Qds : CallOk Tryz.prog 119 := ⟨⟨_, Tryz.func119, rfl, by decide +kernel⟩⟩
theorem Qdf : CallOk Tryz.prog 120 := ⟨⟨_, Tryz.func120, rfl, by decide +kernel⟩⟩
theorem QcJ : CallOk Tryz.prog 121 := ⟨⟨_, Tryz.func121, rfl, by decide +kernel⟩⟩
theorem Qb1 : CallOk Tryz.prog 122 := ⟨⟨_, Tryz.func122, rfl, by decide +kernel⟩⟩
theorem QfC : CallOk Tryz.prog 123 := ⟨⟨_, Tryz.func123, rfl, by decide +kernel⟩⟩
theorem QgR : CallOk Tryz.prog 124 := ⟨⟨_, Tryz.func124, rfl, by decide +kernel⟩⟩
theorem Qbn : CallOk Tryz.prog 125 := ⟨⟨_, Tryz.func125, rfl, by decide +kernel⟩⟩
theorem QgI : CallOk Tryz.prog 126 := ⟨⟨_, Tryz.func126, rfl, by decide +kernel⟩⟩
theorem QfB : CallOk Tryz.prog 127 := ⟨⟨_, Tryz.func127, rfl, by decide +kernel⟩⟩
theorem QfI : CallOk Tryz.prog 133 := ⟨⟨_, Tryz.func133, rfl, by decide +kernel⟩⟩
theorem QgM : CallOk Tryz.prog 134 := ⟨⟨_, Tryz.func134, rfl, by decide +kernel⟩⟩
theorem QgL : CallOk Tryz.prog 135 := ⟨⟨_, Tryz.func135, rfl, by decide +kernel⟩⟩
theorem QgJ : CallOk Tryz.prog 136 := ⟨⟨_, Tryz.func136, rfl, by decide +kernel⟩⟩
theorem QdT : CallOk Tryz.prog 137 := ⟨⟨_, Tryz.func137, rfl, by decide +kernel⟩⟩
theorem QaD : CallOk Tryz.prog 138 := ⟨⟨_, Tryz.func138, rfl, by decide +kernel⟩⟩
theorem Qbe : CallOk Tryz.prog 139 := ⟨⟨_, Tryz.func139, rfl, by decide +kernel⟩⟩
theorem QaE : CallOk Tryz.prog 143 := ⟨⟨_, Tryz.func143, rfl, by decide +kernel⟩⟩
theorem Qdd : CallOk Tryz.prog 145 := ⟨⟨_, Tryz.func145, rfl, by decide +kernel⟩⟩
theorem Qa8 : CallOk Tryz.prog 146 := ⟨⟨_, Tryz.func146, rfl, by decide +kernel⟩⟩
theorem QN : CallOk Tryz.prog 147 := ⟨⟨_, Tryz.func147, rfl, by decide +kernel⟩⟩
theorem QdB : CallOk Tryz.prog 148 := ⟨⟨_, Tryz.func148, rfl, by decide +kernel⟩⟩
theorem QcN : CallOk Tryz.prog 149 := ⟨⟨_, Tryz.func149, rfl, by decide +kernel⟩⟩
theorem QgH : CallOk Tryz.prog 150 := ⟨⟨_, Tryz.func150, rfl, by decide +kernel⟩⟩
theorem Qda : CallOk Tryz.prog 151 := ⟨⟨_, Tryz.func151, rfl, by decide +kernel⟩⟩
theorem QdA : CallOk Tryz.prog 152 := ⟨⟨_, Tryz.func152, rfl, by decide +kernel⟩⟩
theorem QiG : CallOk Tryz.prog 158 := ⟨⟨_, Tryz.func158, rfl, by decide +kernel⟩⟩
theorem Qju : CallOk Tryz.prog 159 := ⟨⟨_, Tryz.func159, rfl, by decide +kernel⟩⟩
theorem QiF : CallOk Tryz.prog 160 := ⟨⟨_, Tryz.func160, rfl, by decide +kernel⟩⟩
theorem QeB : CallOk Tryz.prog 166 := ⟨⟨_, Tryz.func166, rfl, by decide +kernel⟩⟩
theorem Qer : CallOk Tryz.prog 169 := ⟨⟨_, Tryz.func169, rfl, by decide +kernel⟩⟩
theorem Qe9 : CallOk Tryz.prog 172 := ⟨⟨_, Tryz.func172, rfl, by decide +kernel⟩⟩
theorem QdR : ExtOk Tryz.prog 128 Extern.AbiNoEscape.same := ⟨⟨_, Tryz.func128, by kernel_rfl, by kernel_rfl, by kernel_rfl, by kernel_rfl⟩⟩
theorem QbG : ExtOk Tryz.prog 164 Extern.BytealgIndexByte.indexByte := ⟨⟨_, Tryz.func164, by kernel_rfl, by kernel_rfl, by kernel_rfl, by kernel_rfl⟩⟩
abbrev tyB : TypeId := 128
abbrev tyE : TypeId := 5
abbrev Bd (bs : Str) : GO := .bld tyB tyE bs
def QD (C : Ctx) (p_c : Qi) (K : Bool → Heap → Prop) (H : Heap) : Prop :=
 Spec Tryz.prog C 3 [.agg (Qi.c p_c).toArray] H (fun v H2 => ∃ (r0 : Bool), v = .bool r0 ∧ K r0 H2)
theorem QD.gh {C : Ctx} {p_c : Qi} {K : Bool → Heap → Prop} {H : Heap} (h : QD C p_c (fun r0 H2 => ∃ H0, Gh C H2 H0 ∧ K r0 H0) H) : QD C p_c K H :=
 Spec.gh (Spec.mono h fun _ H2 ⟨r0, hv, H0, hg, hk⟩ => ⟨H0, hg, r0, hv, hk⟩)
def QU (C : Ctx) (p_c : Qi) (K : Bool → Heap → Prop) (H : Heap) : Prop :=
 Spec Tryz.prog C 8 [.agg (Qi.c p_c).toArray] H (fun v H2 => ∃ (r0 : Bool), v = .bool r0 ∧ K r0 H2)
theorem QU.gh {C : Ctx} {p_c : Qi} {K : Bool → Heap → Prop} {H : Heap} (h : QU C p_c (fun r0 H2 => ∃ H0, Gh C H2 H0 ∧ K r0 H0) H) : QU C p_c K H :=
 Spec.gh (Spec.mono h fun _ H2 ⟨r0, hv, H0, hg, hk⟩ => ⟨H0, hg, r0, hv, hk⟩)
def Qb9 (C : Ctx) (K : Bool → Heap → Prop) (H : Heap) : Prop :=
 Spec Tryz.prog C 9 [] H (fun v H2 => ∃ (r0 : Bool), v = .bool r0 ∧ K r0 H2)
def Qbt (C : Ctx) (p_l : Sl) (K : Sl → Heap → Prop) (H : Heap) : Prop :=
 Spec Tryz.prog C 10 [slv p_l] H (fun v H2 => ∃ (r0 : Sl), v = slv r0 ∧ K r0 H2)
def Qed (C : Ctx) (p_l : Sl) (K : Sl → Heap → Prop) (H : Heap) : Prop :=
 Spec Tryz.prog C 11 [slv p_l] H (fun v H2 => ∃ (r0 : Sl), v = slv r0 ∧ K r0 H2)
def Qbc (C : Ctx) (p_a : Sl) (p_da : Sl) (p_b : Sl) (p_db : Sl) (p_on : Sl) (K : Sl → Int → Heap → Prop) (H : Heap) : Prop :=
 Spec Tryz.prog C 12 [slv p_a, slv p_da, slv p_b, slv p_db, slv p_on] H (fun v H2 => ∃ (r0 : Sl) (r1 : Int), v = .tuple #[slv r0, .int .i64 r1] ∧ K r0 r1 H2)
def Qce (C : Ctx) (p_a : Sl) (p_da : Sl) (p_b : Sl) (p_db : Sl) (p_on : Sl) (K : Sl → Int → Heap → Prop) (H : Heap) : Prop :=
 Spec Tryz.prog C 13 [slv p_a, slv p_da, slv p_b, slv p_db, slv p_on] H (fun v H2 => ∃ (r0 : Sl) (r1 : Int), v = .tuple #[slv r0, .int .i64 r1] ∧ K r0 r1 H2)
def Qcw (C : Ctx) (p_got : Sl) (p_e : Int) (p_want : Sl) (p_f : Int) (K : Bool → Heap → Prop) (H : Heap) : Prop :=
 Spec Tryz.prog C 14 [slv p_got, .int .i64 p_e, slv p_want, .int .i64 p_f] H (fun v H2 => ∃ (r0 : Bool), v = .bool r0 ∧ K r0 H2)
def Qbb (C : Ctx) (p_a : Sl) (p_da : Sl) (p_b : Sl) (p_db : Sl) (p_on : Sl) (K : Sl → Int → Heap → Prop) (H : Heap) : Prop :=
 Spec Tryz.prog C 15 [slv p_a, slv p_da, slv p_b, slv p_db, slv p_on] H (fun v H2 => ∃ (r0 : Sl) (r1 : Int), v = .tuple #[slv r0, .int .i64 r1] ∧ K r0 r1 H2)
def Qcd (C : Ctx) (p_a : Sl) (p_da : Sl) (p_b : Sl) (p_db : Sl) (p_on : Sl) (K : Sl → Int → Heap → Prop) (H : Heap) : Prop :=
 Spec Tryz.prog C 16 [slv p_a, slv p_da, slv p_b, slv p_db, slv p_on] H (fun v H2 => ∃ (r0 : Sl) (r1 : Int), v = .tuple #[slv r0, .int .i64 r1] ∧ K r0 r1 H2)
def Qat (C : Ctx) (p_a : Sl) (p_da : Sl) (K : Sl → Int → Heap → Prop) (H : Heap) : Prop :=
 Spec Tryz.prog C 17 [slv p_a, slv p_da] H (fun v H2 => ∃ (r0 : Sl) (r1 : Int), v = .tuple #[slv r0, .int .i64 r1] ∧ K r0 r1 H2)
def Qa7 (C : Ctx) (p_a : Sl) (p_da : Sl) (K : Sl → Int → Heap → Prop) (H : Heap) : Prop :=
 Spec Tryz.prog C 18 [slv p_a, slv p_da] H (fun v H2 => ∃ (r0 : Sl) (r1 : Int), v = .tuple #[slv r0, .int .i64 r1] ∧ K r0 r1 H2)
def Qae (C : Ctx) (p_a : Sl) (p_b : Sl) (K : Bool → Heap → Prop) (H : Heap) : Prop :=
 Spec Tryz.prog C 19 [slv p_a, slv p_b] H (fun v H2 => ∃ (r0 : Bool), v = .bool r0 ∧ K r0 H2)
theorem Qae.gh {C : Ctx} {p_a : Sl} {p_b : Sl} {K : Bool → Heap → Prop} {H : Heap} (h : Qae C p_a p_b (fun r0 H2 => ∃ H0, Gh C H2 H0 ∧ K r0 H0) H) : Qae C p_a p_b K H :=
 Spec.gh (Spec.mono h fun _ H2 ⟨r0, hv, H0, hg, hk⟩ => ⟨H0, hg, r0, hv, hk⟩)
def Qbk (C : Ctx) (p_l : Sl) (K : Sl → Heap → Prop) (H : Heap) : Prop :=
 Spec Tryz.prog C 20 [slv p_l] H (fun v H2 => ∃ (r0 : Sl), v = slv r0 ∧ K r0 H2)
def QeX (C : Ctx) (p_a : Sl) (p_b : Sl) (p_on : Sl) (K : Sl → Int → Heap → Prop) (H : Heap) : Prop :=
 Spec Tryz.prog C 22 [slv p_a, slv p_b, slv p_on] H (fun v H2 => ∃ (r0 : Sl) (r1 : Int), v = .tuple #[slv r0, .int .i64 r1] ∧ K r0 r1 H2)
def QeW (C : Ctx) (p_a : Sl) (p_b : Sl) (p_on : Sl) (K : Sl → Int → Heap → Prop) (H : Heap) : Prop :=
 Spec Tryz.prog C 23 [slv p_a, slv p_b, slv p_on] H (fun v H2 => ∃ (r0 : Sl) (r1 : Int), v = .tuple #[slv r0, .int .i64 r1] ∧ K r0 r1 H2)
def QaL (C : Ctx) (p_l : Sl) (K : Sl → Int → Heap → Prop) (H : Heap) : Prop :=
 Spec Tryz.prog C 27 [slv p_l] H (fun v H2 => ∃ (r0 : Sl) (r1 : Int), v = .tuple #[slv r0, .int .i64 r1] ∧ K r0 r1 H2)
def Qbu (C : Ctx) (p_l : Sl) (K : Bool → Heap → Prop) (H : Heap) : Prop :=
 Spec Tryz.prog C 28 [slv p_l] H (fun v H2 => ∃ (r0 : Bool), v = .bool r0 ∧ K r0 H2)
def Qar (C : Ctx) (p_n : Int) (K : Qb → Heap → Prop) (H : Heap) : Prop :=
 Spec Tryz.prog C 29 [.int .i64 p_n] H (fun v H2 => ∃ (r0 : Qb), v = .agg (Qb.c r0).toArray ∧ K r0 H2)
def Qbj (C : Ctx) (p_s : Str) (K : Qb → Heap → Prop) (H : Heap) : Prop :=
 Spec Tryz.prog C 30 [sv p_s] H (fun v H2 => ∃ (r0 : Qb), v = .agg (Qb.c r0).toArray ∧ K r0 H2)
def QaS (C : Ctx) (p_l : Sl) (K : Sl → Heap → Prop) (H : Heap) : Prop :=
 Spec Tryz.prog C 31 [slv p_l] H (fun v H2 => ∃ (r0 : Sl), v = slv r0 ∧ K r0 H2)
def Qb7 (C : Ctx) (p_a : Sl) (p_da : Sl) (p_b : Sl) (p_db : Sl) (K : Qe → Qe → Int → Heap → Prop) (H : Heap) : Prop :=
 Spec Tryz.prog C 32 [slv p_a, slv p_da, slv p_b, slv p_db] H (fun v H2 => ∃ (r0 : Qe) (r1 : Qe) (r2 : Int), v = .tuple #[.agg (Qe.c r0).toArray, .agg (Qe.c r1).toArray, .int .i64 r2] ∧ K r0 r1 r2 H2)
def QI (C : Ctx) (p_l : Sl) (K : Sl → Int → Heap → Prop) (H : Heap) : Prop :=
 Spec Tryz.prog C 33 [slv p_l] H (fun v H2 => ∃ (r0 : Sl) (r1 : Int), v = .tuple #[slv r0, .int .i64 r1] ∧ K r0 r1 H2)
def Qcv (C : Ctx) (p_a : Sl) (p_b : Sl) (p_on : Sl) (K : Sl → Heap → Prop) (H : Heap) : Prop :=
 Spec Tryz.prog C 34 [slv p_a, slv p_b, slv p_on] H (fun v H2 => ∃ (r0 : Sl), v = slv r0 ∧ K r0 H2)
def Qej (C : Ctx) (p_a : Sl) (p_b : Sl) (K : Sl → Int → Heap → Prop) (H : Heap) : Prop :=
 Spec Tryz.prog C 35 [slv p_a, slv p_b] H (fun v H2 => ∃ (r0 : Sl) (r1 : Int), v = .tuple #[slv r0, .int .i64 r1] ∧ K r0 r1 H2)
def Qcf (C : Ctx) (p_a : Sl) (p_da : Sl) (p_b : Sl) (p_db : Sl) (K : Sl → Sl → Int → Heap → Prop) (H : Heap) : Prop :=
 Spec Tryz.prog C 36 [slv p_a, slv p_da, slv p_b, slv p_db] H (fun v H2 => ∃ (r0 : Sl) (r1 : Sl) (r2 : Int), v = .tuple #[slv r0, slv r1, .int .i64 r2] ∧ K r0 r1 r2 H2)
def Qdx (C : Ctx) (p_a : Sl) (p_b : Sl) (p_on : Sl) (K : Sl → Int → Heap → Prop) (H : Heap) : Prop :=
 Spec Tryz.prog C 37 [slv p_a, slv p_b, slv p_on] H (fun v H2 => ∃ (r0 : Sl) (r1 : Int), v = .tuple #[slv r0, .int .i64 r1] ∧ K r0 r1 H2)
def QbU (C : Ctx) (p_a : Sl) (p_b : Sl) (K : Sl → Int → Heap → Prop) (H : Heap) : Prop :=
 Spec Tryz.prog C 38 [slv p_a, slv p_b] H (fun v H2 => ∃ (r0 : Sl) (r1 : Int), v = .tuple #[slv r0, .int .i64 r1] ∧ K r0 r1 H2)
def Qca (C : Ctx) (p_l : Sl) (K : Heap → Prop) (H : Heap) : Prop :=
 Spec Tryz.prog C 39 [slv p_l] H (fun v H2 => v = .tuple #[] ∧ K H2)
def QbS (C : Ctx) (p_a : Sl) (p_b : Sl) (p_on : Sl) (K : Sl → Heap → Prop) (H : Heap) : Prop :=
 Spec Tryz.prog C 40 [slv p_a, slv p_b, slv p_on] H (fun v H2 => ∃ (r0 : Sl), v = slv r0 ∧ K r0 H2)
def QeY (C : Ctx) (p_l : Sl) (K : Sl → Heap → Prop) (H : Heap) : Prop :=
 Spec Tryz.prog C 41 [slv p_l] H (fun v H2 => ∃ (r0 : Sl), v = slv r0 ∧ K r0 H2)
def Qdw (C : Ctx) (p_a : Sl) (p_b : Sl) (p_on : Sl) (K : Sl → Int → Heap → Prop) (H : Heap) : Prop :=
 Spec Tryz.prog C 42 [slv p_a, slv p_b, slv p_on] H (fun v H2 => ∃ (r0 : Sl) (r1 : Int), v = .tuple #[slv r0, .int .i64 r1] ∧ K r0 r1 H2)
def Qay (C : Ctx) (p_s : Qc) (p_row : Sl) (K : Str → Bool → Heap → Prop) (H : Heap) : Prop :=
 Spec Tryz.prog C 43 [.agg (Qc.c p_s).toArray, slv p_row] H (fun v H2 => ∃ (r0 : Str) (r1 : Bool), v = .tuple #[sv r0, .bool r1] ∧ K r0 r1 H2)
def QbK (C : Ctx) (p_l : Sl) (K : Sl → Int → Heap → Prop) (H : Heap) : Prop :=
 Spec Tryz.prog C 44 [slv p_l] H (fun v H2 => ∃ (r0 : Sl) (r1 : Int), v = .tuple #[slv r0, .int .i64 r1] ∧ K r0 r1 H2)
def Qbl (C : Ctx) (p_a : Sl) (p_b : Sl) (K : Bool → Heap → Prop) (H : Heap) : Prop :=
 Spec Tryz.prog C 45 [slv p_a, slv p_b] H (fun v H2 => ∃ (r0 : Bool), v = .bool r0 ∧ K r0 H2)
def Qak (C : Ctx) (p_v : Qb) (K : Int → Heap → Prop) (H : Heap) : Prop :=
 Spec Tryz.prog C 46 [.agg (Qb.c p_v).toArray] H (fun v H2 => ∃ (r0 : Int), v = .int .i64 r0 ∧ K r0 H2)
theorem Qak.gh {C : Ctx} {p_v : Qb} {K : Int → Heap → Prop} {H : Heap} (h : Qak C p_v (fun r0 H2 => ∃ H0, Gh C H2 H0 ∧ K r0 H0) H) : Qak C p_v K H :=
 Spec.gh (Spec.mono h fun _ H2 ⟨r0, hv, H0, hg, hk⟩ => ⟨H0, hg, r0, hv, hk⟩)
def QcZ (C : Ctx) (p_a : Sl) (p_b : Sl) (K : Sl → Int → Heap → Prop) (H : Heap) : Prop :=
 Spec Tryz.prog C 47 [slv p_a, slv p_b] H (fun v H2 => ∃ (r0 : Sl) (r1 : Int), v = .tuple #[slv r0, .int .i64 r1] ∧ K r0 r1 H2)
def Qs (C : Ctx) (p_s : Sl) (p_del : Value) (K : Sl → Heap → Prop) (H : Heap) : Prop :=
 Spec Tryz.prog C 48 [slv p_s, p_del] H (fun v H2 => ∃ (r0 : Sl), v = slv r0 ∧ K r0 H2)
def Qap (C : Ctx) (p_x : Qa) (K : Bool → Heap → Prop) (H : Heap) : Prop :=
 Spec Tryz.prog C 49 [.agg (Qa.c p_x).toArray] H (fun v H2 => ∃ (r0 : Bool), v = .bool r0 ∧ K r0 H2)
theorem Qap.gh {C : Ctx} {p_x : Qa} {K : Bool → Heap → Prop} {H : Heap} (h : Qap C p_x (fun r0 H2 => ∃ H0, Gh C H2 H0 ∧ K r0 H0) H) : Qap C p_x K H :=
 Spec.gh (Spec.mono h fun _ H2 ⟨r0, hv, H0, hg, hk⟩ => ⟨H0, hg, r0, hv, hk⟩)
def Qac (C : Ctx) (p_v : Qb) (p_most : Int) (K : Int → Heap → Prop) (H : Heap) : Prop :=
 Spec Tryz.prog C 50 [.agg (Qb.c p_v).toArray, .int .i64 p_most] H (fun v H2 => ∃ (r0 : Int), v = .int .i64 r0 ∧ K r0 H2)
theorem Qac.gh {C : Ctx} {p_v : Qb} {p_most : Int} {K : Int → Heap → Prop} {H : Heap} (h : Qac C p_v p_most (fun r0 H2 => ∃ H0, Gh C H2 H0 ∧ K r0 H0) H) : Qac C p_v p_most K H :=
 Spec.gh (Spec.mono h fun _ H2 ⟨r0, hv, H0, hg, hk⟩ => ⟨H0, hg, r0, hv, hk⟩)
def Qc7 (C : Ctx) (p_parts : Sl) (K : Sl → Int → Heap → Prop) (H : Heap) : Prop :=
 Spec Tryz.prog C 51 [slv p_parts] H (fun v H2 => ∃ (r0 : Sl) (r1 : Int), v = .tuple #[slv r0, .int .i64 r1] ∧ K r0 r1 H2)
def Qlc (C : Ctx) (p_n : Int) (K : Int → Heap → Prop) (H : Heap) : Prop :=
 Spec Tryz.prog C 52 [.int .i64 p_n] H (fun v H2 => ∃ (r0 : Int), v = .int .i64 r0 ∧ K r0 H2)
def QcU (C : Ctx) (p_on : Sl) (K : Qc → Qc → Heap → Prop) (H : Heap) : Prop :=
 Spec Tryz.prog C 53 [slv p_on] H (fun v H2 => ∃ (r0 : Qc) (r1 : Qc), v = .tuple #[.agg (Qc.c r0).toArray, .agg (Qc.c r1).toArray] ∧ K r0 r1 H2)
def Qb8 (C : Ctx) (p_s : Qc) (p_l : Sl) (K : Option Nat → Heap → Prop) (H : Heap) : Prop :=
 Spec Tryz.prog C 54 [.agg (Qc.c p_s).toArray, slv p_l] H (fun v H2 => ∃ (r0 : Option Nat), v = mv r0 ∧ K r0 H2)
def Qax (C : Ctx) (p_s : Qc) (p_row : Sl) (K : Str → Bool → Heap → Prop) (H : Heap) : Prop :=
 Spec Tryz.prog C 55 [.agg (Qc.c p_s).toArray, slv p_row] H (fun v H2 => ∃ (r0 : Str) (r1 : Bool), v = .tuple #[sv r0, .bool r1] ∧ K r0 r1 H2)
def Qiu (C : Ctx) (p_n : Int) (K : Int → Heap → Prop) (H : Heap) : Prop :=
 Spec Tryz.prog C 56 [.int .i64 p_n] H (fun v H2 => ∃ (r0 : Int), v = .int .i64 r0 ∧ K r0 H2)
def QP (C : Ctx) (p_l : Sl) (K : Sl → Int → Heap → Prop) (H : Heap) : Prop :=
 Spec Tryz.prog C 57 [slv p_l] H (fun v H2 => ∃ (r0 : Sl) (r1 : Int), v = .tuple #[slv r0, .int .i64 r1] ∧ K r0 r1 H2)
def Qc4 (C : Ctx) (p_a : Sl) (p_b : Sl) (K : Sl → Int → Heap → Prop) (H : Heap) : Prop :=
 Spec Tryz.prog C 58 [slv p_a, slv p_b] H (fun v H2 => ∃ (r0 : Sl) (r1 : Int), v = .tuple #[slv r0, .int .i64 r1] ∧ K r0 r1 H2)
def Qdy (C : Ctx) (p_a : Sl) (p_b : Sl) (K : Sl → Sl → Int → Heap → Prop) (H : Heap) : Prop :=
 Spec Tryz.prog C 59 [slv p_a, slv p_b] H (fun v H2 => ∃ (r0 : Sl) (r1 : Sl) (r2 : Int), v = .tuple #[slv r0, slv r1, .int .i64 r2] ∧ K r0 r1 r2 H2)
def Qbm (C : Ctx) (p_a : Sl) (p_b : Sl) (p_on : Sl) (K : Bool → Heap → Prop) (H : Heap) : Prop :=
 Spec Tryz.prog C 60 [slv p_a, slv p_b, slv p_on] H (fun v H2 => ∃ (r0 : Bool), v = .bool r0 ∧ K r0 H2)
theorem Qbm.gh {C : Ctx} {p_a : Sl} {p_b : Sl} {p_on : Sl} {K : Bool → Heap → Prop} {H : Heap} (h : Qbm C p_a p_b p_on (fun r0 H2 => ∃ H0, Gh C H2 H0 ∧ K r0 H0) H) : Qbm C p_a p_b p_on K H :=
 Spec.gh (Spec.mono h fun _ H2 ⟨r0, hv, H0, hg, hk⟩ => ⟨H0, hg, r0, hv, hk⟩)
def Qdv (C : Ctx) (p_a : Sl) (p_b : Sl) (p_turn : Bool) (K : Sl → Heap → Prop) (H : Heap) : Prop :=
 Spec Tryz.prog C 61 [slv p_a, slv p_b, .bool p_turn] H (fun v H2 => ∃ (r0 : Sl), v = slv r0 ∧ K r0 H2)
def Qam (C : Ctx) (p_a : Qb) (p_b : Qb) (K : Bool → Heap → Prop) (H : Heap) : Prop :=
 Spec Tryz.prog C 62 [.agg (Qb.c p_a).toArray, .agg (Qb.c p_b).toArray] H (fun v H2 => ∃ (r0 : Bool), v = .bool r0 ∧ K r0 H2)
theorem Qam.gh {C : Ctx} {p_a : Qb} {p_b : Qb} {K : Bool → Heap → Prop} {H : Heap} (h : Qam C p_a p_b (fun r0 H2 => ∃ H0, Gh C H2 H0 ∧ K r0 H0) H) : Qam C p_a p_b K H :=
 Spec.gh (Spec.mono h fun _ H2 ⟨r0, hv, H0, hg, hk⟩ => ⟨H0, hg, r0, hv, hk⟩)
def Qal (C : Ctx) (p_v : Qb) (p_most : Int) (K : Int → Heap → Prop) (H : Heap) : Prop :=
 Spec Tryz.prog C 63 [.agg (Qb.c p_v).toArray, .int .i64 p_most] H (fun v H2 => ∃ (r0 : Int), v = .int .i64 r0 ∧ K r0 H2)
theorem Qal.gh {C : Ctx} {p_v : Qb} {p_most : Int} {K : Int → Heap → Prop} {H : Heap} (h : Qal C p_v p_most (fun r0 H2 => ∃ H0, Gh C H2 H0 ∧ K r0 H0) H) : Qal C p_v p_most K H :=
 Spec.gh (Spec.mono h fun _ H2 ⟨r0, hv, H0, hg, hk⟩ => ⟨H0, hg, r0, hv, hk⟩)
def QM (C : Ctx) (p_v : Qb) (K : Bool → Bool → Heap → Prop) (H : Heap) : Prop :=
 Spec Tryz.prog C 64 [.agg (Qb.c p_v).toArray] H (fun v H2 => ∃ (r0 : Bool) (r1 : Bool), v = .tuple #[.bool r0, .bool r1] ∧ K r0 r1 H2)
theorem QM.gh {C : Ctx} {p_v : Qb} {K : Bool → Bool → Heap → Prop} {H : Heap} (h : QM C p_v (fun r0 r1 H2 => ∃ H0, Gh C H2 H0 ∧ K r0 r1 H0) H) : QM C p_v K H :=
 Spec.gh (Spec.mono h fun _ H2 ⟨r0, r1, hv, H0, hg, hk⟩ => ⟨H0, hg, r0, r1, hv, hk⟩)
def QG (C : Ctx) (p_s : Sl) (p_f : Value) (K : Int → Heap → Prop) (H : Heap) : Prop :=
 Spec Tryz.prog C 65 [slv p_s, p_f] H (fun v H2 => ∃ (r0 : Int), v = .int .i64 r0 ∧ K r0 H2)
def Qc6 (C : Ctx) (p_parts : Sl) (K : Value → Heap → Prop) (H : Heap) : Prop :=
 Spec Tryz.prog C 66 [slv p_parts] H (fun v H2 => ∃ (r0 : Value), v = r0 ∧ K r0 H2)
theorem Qc6.gh {C : Ctx} {p_parts : Sl} {K : Value → Heap → Prop} {H : Heap} (h : Qc6 C p_parts (fun r0 H2 => ∃ H0, Gh C H2 H0 ∧ K r0 H0) H) : Qc6 C p_parts K H :=
 Spec.gh (Spec.mono h fun _ H2 ⟨r0, hv, H0, hg, hk⟩ => ⟨H0, hg, r0, hv, hk⟩)
def Qo (C : Ctx) (p_s : Sl) (p_f : Value) (K : Bool → Heap → Prop) (H : Heap) : Prop :=
 Spec Tryz.prog C 67 [slv p_s, p_f] H (fun v H2 => ∃ (r0 : Bool), v = .bool r0 ∧ K r0 H2)
def Qbv (C : Ctx) (p_v : Qb) (K : Bool → Heap → Prop) (H : Heap) : Prop :=
 Spec Tryz.prog C 68 [.agg (Qb.c p_v).toArray] H (fun v H2 => ∃ (r0 : Bool), v = .bool r0 ∧ K r0 H2)
theorem Qbv.gh {C : Ctx} {p_v : Qb} {K : Bool → Heap → Prop} {H : Heap} (h : Qbv C p_v (fun r0 H2 => ∃ H0, Gh C H2 H0 ∧ K r0 H0) H) : Qbv C p_v K H :=
 Spec.gh (Spec.mono h fun _ H2 ⟨r0, hv, H0, hg, hk⟩ => ⟨H0, hg, r0, hv, hk⟩)
def Qc0 (C : Ctx) (p_n : Int) (K : Bool → Heap → Prop) (H : Heap) : Prop :=
 Spec Tryz.prog C 69 [.int .i64 p_n] H (fun v H2 => ∃ (r0 : Bool), v = .bool r0 ∧ K r0 H2)
def Ql (C : Ctx) (p_x : Sl) (p_cmp : Value) (K : Heap → Prop) (H : Heap) : Prop :=
 Spec Tryz.prog C 70 [slv p_x, p_cmp] H (fun v H2 => v = .tuple #[] ∧ K H2)
def QaY (C : Ctx) (p_a : Qa) (p_b : Qa) (K : Int → Heap → Prop) (H : Heap) : Prop :=
 Spec Tryz.prog C 71 [.agg (Qa.c p_a).toArray, .agg (Qa.c p_b).toArray] H (fun v H2 => ∃ (r0 : Int), v = .int .i64 r0 ∧ K r0 H2)
theorem QaY.gh {C : Ctx} {p_a : Qa} {p_b : Qa} {K : Int → Heap → Prop} {H : Heap} (h : QaY C p_a p_b (fun r0 H2 => ∃ H0, Gh C H2 H0 ∧ K r0 H0) H) : QaY C p_a p_b K H :=
 Spec.gh (Spec.mono h fun _ H2 ⟨r0, hv, H0, hg, hk⟩ => ⟨H0, hg, r0, hv, hk⟩)
def QaK (C : Ctx) (p_a : Sl) (p_b : Sl) (K : Int → Heap → Prop) (H : Heap) : Prop :=
 Spec Tryz.prog C 72 [slv p_a, slv p_b] H (fun v H2 => ∃ (r0 : Int), v = .int .i64 r0 ∧ K r0 H2)
def Qcn (C : Ctx) (p_l : Sl) (K : Sl → Heap → Prop) (H : Heap) : Prop :=
 Spec Tryz.prog C 73 [slv p_l] H (fun v H2 => ∃ (r0 : Sl), v = slv r0 ∧ K r0 H2)
def QbV (C : Ctx) (p_v : Qb) (K : Str → Heap → Prop) (H : Heap) : Prop :=
 Spec Tryz.prog C 74 [.agg (Qb.c p_v).toArray] H (fun v H2 => ∃ (r0 : Str), v = sv r0 ∧ K r0 H2)
theorem QbV.gh {C : Ctx} {p_v : Qb} {K : Str → Heap → Prop} {H : Heap} (h : QbV C p_v (fun r0 H2 => ∃ H0, Gh C H2 H0 ∧ K r0 H0) H) : QbV C p_v K H :=
 Spec.gh (Spec.mono h fun _ H2 ⟨r0, hv, H0, hg, hk⟩ => ⟨H0, hg, r0, hv, hk⟩)
def QaU (C : Ctx) (p_l : Sl) (K : Int → Heap → Prop) (H : Heap) : Prop :=
 Spec Tryz.prog C 75 [slv p_l] H (fun v H2 => ∃ (r0 : Int), v = .int .i64 r0 ∧ K r0 H2)
theorem QaU.gh {C : Ctx} {p_l : Sl} {K : Int → Heap → Prop} {H : Heap} (h : QaU C p_l (fun r0 H2 => ∃ H0, Gh C H2 H0 ∧ K r0 H0) H) : QaU C p_l K H :=
 Spec.gh (Spec.mono h fun _ H2 ⟨r0, hv, H0, hg, hk⟩ => ⟨H0, hg, r0, hv, hk⟩)
def Qcb (C : Ctx) (p_a : Sl) (p_b : Sl) (K : Int → Heap → Prop) (H : Heap) : Prop :=
 Spec Tryz.prog C 76 [slv p_a, slv p_b] H (fun v H2 => ∃ (r0 : Int), v = .int .i64 r0 ∧ K r0 H2)
def QdQ (C : Ctx) (p_s : Str) (K : Int → Bool → Heap → Prop) (H : Heap) : Prop :=
 Spec Tryz.prog C 77 [sv p_s] H (fun v H2 => ∃ (r0 : Int) (r1 : Bool), v = .tuple #[.int .i64 r0, .bool r1] ∧ K r0 r1 H2)
def Qef (C : Ctx) (p_s : Str) (p_sep : Str) (K : Str → Str → Bool → Heap → Prop) (H : Heap) : Prop :=
 Spec Tryz.prog C 78 [sv p_s, sv p_sep] H (fun v H2 => ∃ (r0 : Str) (r1 : Str) (r2 : Bool), v = .tuple #[sv r0, sv r1, .bool r2] ∧ K r0 r1 r2 H2)
def QbW (C : Ctx) (p_s : Str) (K : Bool → Heap → Prop) (H : Heap) : Prop :=
 Spec Tryz.prog C 79 [sv p_s] H (fun v H2 => ∃ (r0 : Bool), v = .bool r0 ∧ K r0 H2)
def Qkp (C : Ctx) (p_yield : Value) (v0 : Nat × Nat) (K : Heap → Prop) (H : Heap) : Prop :=
 Spec Tryz.prog C 80 [p_yield, pv (some v0)] H (fun v H2 => v = .tuple #[] ∧ K H2)
def QL (C : Ctx) (p_s : Sl) (p_f : Value) (K : Int → Heap → Prop) (H : Heap) : Prop :=
 Spec Tryz.prog C 81 [slv p_s, p_f] H (fun v H2 => ∃ (r0 : Int), v = .int .i64 r0 ∧ K r0 H2)
def QW (C : Ctx) (p_data : Sl) (p_n : Int) (p_cmp : Value) (K : Heap → Prop) (H : Heap) : Prop :=
 Spec Tryz.prog C 82 [slv p_data, .int .i64 p_n, p_cmp] H (fun v H2 => v = .tuple #[] ∧ K H2)
def Qeh (C : Ctx) (p_l : Sl) (K : Bool → Heap → Prop) (H : Heap) : Prop :=
 Spec Tryz.prog C 83 [slv p_l] H (fun v H2 => ∃ (r0 : Bool), v = .bool r0 ∧ K r0 H2)
def Qe0 (C : Ctx) (p_a : Bool) (p_b : Bool) (K : Int → Heap → Prop) (H : Heap) : Prop :=
 Spec Tryz.prog C 84 [.bool p_a, .bool p_b] H (fun v H2 => ∃ (r0 : Int), v = .int .i64 r0 ∧ K r0 H2)
def Qcz (C : Ctx) (p_a : Sl) (p_b : Sl) (K : Int → Heap → Prop) (H : Heap) : Prop :=
 Spec Tryz.prog C 85 [slv p_a, slv p_b] H (fun v H2 => ∃ (r0 : Int), v = .int .i64 r0 ∧ K r0 H2)
def QS (C : Ctx) (p_s : Sl) (K : Sl → Heap → Prop) (H : Heap) : Prop :=
 Spec Tryz.prog C 86 [slv p_s] H (fun v H2 => ∃ (r0 : Sl), v = slv r0 ∧ K r0 H2)
def QdP (C : Ctx) (p_l : Sl) (v0 : Nat × Nat) (v1 : Nat × Nat) (K : Heap → Prop) (H : Heap) : Prop :=
 Spec Tryz.prog C 87 [slv p_l, pv (some v0), pv (some v1)] H (fun v H2 => v = .tuple #[] ∧ K H2)
def Qj (C : Ctx) (p_b : Option (Nat × Nat)) (p_c : Int) (K : Value → Heap → Prop) (H : Heap) : Prop :=
 Spec Tryz.prog C 88 [pv p_b, .int .u8 p_c] H (fun v H2 => ∃ (r0 : Value), v = r0 ∧ K r0 H2)
theorem Qj.gh {C : Ctx} {p_b : Option (Nat × Nat)} {p_c : Int} {K : Value → Heap → Prop} {H : Heap} (h : Qj C p_b p_c (fun r0 H2 => ∃ H0, Gh C H2 H0 ∧ K r0 H0) H) : Qj C p_b p_c K H :=
 Spec.gh (Spec.mono h fun _ H2 ⟨r0, hv, H0, hg, hk⟩ => ⟨H0, hg, r0, hv, hk⟩)
def Qk (C : Ctx) (p_b : Option (Nat × Nat)) (p_s : Str) (K : Int → Value → Heap → Prop) (H : Heap) : Prop :=
 Spec Tryz.prog C 89 [pv p_b, sv p_s] H (fun v H2 => ∃ (r0 : Int) (r1 : Value), v = .tuple #[.int .i64 r0, r1] ∧ K r0 r1 H2)
theorem Qk.gh {C : Ctx} {p_b : Option (Nat × Nat)} {p_s : Str} {K : Int → Value → Heap → Prop} {H : Heap} (h : Qk C p_b p_s (fun r0 r1 H2 => ∃ H0, Gh C H2 H0 ∧ K r0 r1 H0) H) : Qk C p_b p_s K H :=
 Spec.gh (Spec.mono h fun _ H2 ⟨r0, r1, hv, H0, hg, hk⟩ => ⟨H0, hg, r0, r1, hv, hk⟩)
def QbF (C : Ctx) (p_v : Qb) (v0 : Nat × Nat) (v1 : Nat × Nat) (K : Heap → Prop) (H : Heap) : Prop :=
 Spec Tryz.prog C 90 [.agg (Qb.c p_v).toArray, pv (some v0), pv (some v1)] H (fun v H2 => v = .tuple #[] ∧ K H2)
def QbB (C : Ctx) (p_b : Bool) (K : Str → Heap → Prop) (H : Heap) : Prop :=
 Spec Tryz.prog C 91 [.bool p_b] H (fun v H2 => ∃ (r0 : Str), v = sv r0 ∧ K r0 H2)
def Qc5 (C : Ctx) (p_i : Int) (p_base : Int) (K : Str → Heap → Prop) (H : Heap) : Prop :=
 Spec Tryz.prog C 92 [.int .i64 p_i, .int .i64 p_base] H (fun v H2 => ∃ (r0 : Str), v = sv r0 ∧ K r0 H2)
def Qei (C : Ctx) (p_b : Option (Nat × Nat)) (p_s : Str) (K : Heap → Prop) (H : Heap) : Prop :=
 Spec Tryz.prog C 93 [pv p_b, sv p_s] H (fun v H2 => v = .tuple #[] ∧ K H2)
def Qy (C : Ctx) (p_b : Option (Nat × Nat)) (K : Str → Heap → Prop) (H : Heap) : Prop :=
 Spec Tryz.prog C 94 [pv p_b] H (fun v H2 => ∃ (r0 : Str), v = sv r0 ∧ K r0 H2)
theorem Qy.gh {C : Ctx} {p_b : Option (Nat × Nat)} {K : Str → Heap → Prop} {H : Heap} (h : Qy C p_b (fun r0 H2 => ∃ H0, Gh C H2 H0 ∧ K r0 H0) H) : Qy C p_b K H :=
 Spec.gh (Spec.mono h fun _ H2 ⟨r0, hv, H0, hg, hk⟩ => ⟨H0, hg, r0, hv, hk⟩)
def Qc3 (C : Ctx) (p_l : Sl) (K : Bool → Heap → Prop) (H : Heap) : Prop :=
 Spec Tryz.prog C 95 [slv p_l] H (fun v H2 => ∃ (r0 : Bool), v = .bool r0 ∧ K r0 H2)
def QeZ (C : Ctx) (p_a : Bool) (p_b : Bool) (K : Int → Heap → Prop) (H : Heap) : Prop :=
 Spec Tryz.prog C 96 [.bool p_a, .bool p_b] H (fun v H2 => ∃ (r0 : Int), v = .int .i64 r0 ∧ K r0 H2)
def QbT (C : Ctx) (p_a : Sl) (p_b : Sl) (K : Int → Heap → Prop) (H : Heap) : Prop :=
 Spec Tryz.prog C 97 [slv p_a, slv p_b] H (fun v H2 => ∃ (r0 : Int), v = .int .i64 r0 ∧ K r0 H2)
def QbC (C : Ctx) (p_s : Str) (p_prefix : Str) (K : Str → Heap → Prop) (H : Heap) : Prop :=
 Spec Tryz.prog C 98 [sv p_s, sv p_prefix] H (fun v H2 => ∃ (r0 : Str), v = sv r0 ∧ K r0 H2)
def QaH (C : Ctx) (p_s : Str) (p_cutset : Str) (K : Str → Heap → Prop) (H : Heap) : Prop :=
 Spec Tryz.prog C 99 [sv p_s, sv p_cutset] H (fun v H2 => ∃ (r0 : Str), v = sv r0 ∧ K r0 H2)
theorem QaH.gh {C : Ctx} {p_s : Str} {p_cutset : Str} {K : Str → Heap → Prop} {H : Heap} (h : QaH C p_s p_cutset (fun r0 H2 => ∃ H0, Gh C H2 H0 ∧ K r0 H0) H) : QaH C p_s p_cutset K H :=
 Spec.gh (Spec.mono h fun _ H2 ⟨r0, hv, H0, hg, hk⟩ => ⟨H0, hg, r0, hv, hk⟩)
def Qbz (C : Ctx) (p_s : Str) (p_sep : Str) (K : Str → Str → Bool → Heap → Prop) (H : Heap) : Prop :=
 Spec Tryz.prog C 100 [sv p_s, sv p_sep] H (fun v H2 => ∃ (r0 : Str) (r1 : Str) (r2 : Bool), v = .tuple #[sv r0, sv r1, .bool r2] ∧ K r0 r1 r2 H2)
def Qv (C : Ctx) (p_data : Sl) (p_a : Int) (p_b : Int) (p_cmp : Value) (K : Heap → Prop) (H : Heap) : Prop :=
 Spec Tryz.prog C 101 [slv p_data, .int .i64 p_a, .int .i64 p_b, p_cmp] H (fun v H2 => v = .tuple #[] ∧ K H2)
def Qp (C : Ctx) (p_data : Sl) (p_a : Int) (p_m : Int) (p_b : Int) (p_cmp : Value) (K : Heap → Prop) (H : Heap) : Prop :=
 Spec Tryz.prog C 102 [slv p_data, .int .i64 p_a, .int .i64 p_m, .int .i64 p_b, p_cmp] H (fun v H2 => v = .tuple #[] ∧ K H2)
def QaX (C : Ctx) (p_v : Qb) (K : Bool → Heap → Prop) (H : Heap) : Prop :=
 Spec Tryz.prog C 103 [.agg (Qb.c p_v).toArray] H (fun v H2 => ∃ (r0 : Bool), v = .bool r0 ∧ K r0 H2)
theorem QaX.gh {C : Ctx} {p_v : Qb} {K : Bool → Heap → Prop} {H : Heap} (h : QaX C p_v (fun r0 H2 => ∃ H0, Gh C H2 H0 ∧ K r0 H0) H) : QaX C p_v K H :=
 Spec.gh (Spec.mono h fun _ H2 ⟨r0, hv, H0, hg, hk⟩ => ⟨H0, hg, r0, hv, hk⟩)
def Qh (C : Ctx) (p_s1 : Sl) (p_s2 : Sl) (p_cmp : Value) (K : Int → Heap → Prop) (H : Heap) : Prop :=
 Spec Tryz.prog C 104 [slv p_s1, slv p_s2, p_cmp] H (fun v H2 => ∃ (r0 : Int), v = .int .i64 r0 ∧ K r0 H2)
theorem Qh.gh {C : Ctx} {p_s1 : Sl} {p_s2 : Sl} {p_cmp : Value} {K : Int → Heap → Prop} {H : Heap} (h : Qh C p_s1 p_s2 p_cmp (fun r0 H2 => ∃ H0, Gh C H2 H0 ∧ K r0 H0) H) : Qh C p_s1 p_s2 p_cmp K H :=
 Spec.gh (Spec.mono h fun _ H2 ⟨r0, hv, H0, hg, hk⟩ => ⟨H0, hg, r0, hv, hk⟩)
def Qa4 (C : Ctx) (p_x : Qb) (p_y : Qb) (K : Int → Heap → Prop) (H : Heap) : Prop :=
 Spec Tryz.prog C 105 [.agg (Qb.c p_x).toArray, .agg (Qb.c p_y).toArray] H (fun v H2 => ∃ (r0 : Int), v = .int .i64 r0 ∧ K r0 H2)
theorem Qa4.gh {C : Ctx} {p_x : Qb} {p_y : Qb} {K : Int → Heap → Prop} {H : Heap} (h : Qa4 C p_x p_y (fun r0 H2 => ∃ H0, Gh C H2 H0 ∧ K r0 H0) H) : Qa4 C p_x p_y K H :=
 Spec.gh (Spec.mono h fun _ H2 ⟨r0, hv, H0, hg, hk⟩ => ⟨H0, hg, r0, hv, hk⟩)
def QQ (C : Ctx) (p_v : Qb) (p_w : Qb) (K : Int → Heap → Prop) (H : Heap) : Prop :=
 Spec Tryz.prog C 106 [.agg (Qb.c p_v).toArray, .agg (Qb.c p_w).toArray] H (fun v H2 => ∃ (r0 : Int), v = .int .i64 r0 ∧ K r0 H2)
theorem QQ.gh {C : Ctx} {p_v : Qb} {p_w : Qb} {K : Int → Heap → Prop} {H : Heap} (h : QQ C p_v p_w (fun r0 H2 => ∃ H0, Gh C H2 H0 ∧ K r0 H0) H) : QQ C p_v p_w K H :=
 Spec.gh (Spec.mono h fun _ H2 ⟨r0, hv, H0, hg, hk⟩ => ⟨H0, hg, r0, hv, hk⟩)
def QX (C : Ctx) (p_b : Option (Nat × Nat)) (K : Heap → Prop) (H : Heap) : Prop :=
 Spec Tryz.prog C 107 [pv p_b] H (fun v H2 => v = .tuple #[] ∧ K H2)
def Qa0 (C : Ctx) (p_b : Bool) (K : Str → Heap → Prop) (H : Heap) : Prop :=
 Spec Tryz.prog C 108 [.bool p_b] H (fun v H2 => ∃ (r0 : Str), v = sv r0 ∧ K r0 H2)
def QaR (C : Ctx) (p_v : Qb) (K : Int → Heap → Prop) (H : Heap) : Prop :=
 Spec Tryz.prog C 110 [.agg (Qb.c p_v).toArray] H (fun v H2 => ∃ (r0 : Int), v = .int .i64 r0 ∧ K r0 H2)
theorem QaR.gh {C : Ctx} {p_v : Qb} {K : Int → Heap → Prop} {H : Heap} (h : QaR C p_v (fun r0 H2 => ∃ H0, Gh C H2 H0 ∧ K r0 H0) H) : QaR C p_v K H :=
 Spec.gh (Spec.mono h fun _ H2 ⟨r0, hv, H0, hg, hk⟩ => ⟨H0, hg, r0, hv, hk⟩)
def QaT (C : Ctx) (p_a : Qb) (p_b : Qb) (K : Int → Heap → Prop) (H : Heap) : Prop :=
 Spec Tryz.prog C 111 [.agg (Qb.c p_a).toArray, .agg (Qb.c p_b).toArray] H (fun v H2 => ∃ (r0 : Int), v = .int .i64 r0 ∧ K r0 H2)
theorem QaT.gh {C : Ctx} {p_a : Qb} {p_b : Qb} {K : Int → Heap → Prop} {H : Heap} (h : QaT C p_a p_b (fun r0 H2 => ∃ H0, Gh C H2 H0 ∧ K r0 H0) H) : QaT C p_a p_b K H :=
 Spec.gh (Spec.mono h fun _ H2 ⟨r0, hv, H0, hg, hk⟩ => ⟨H0, hg, r0, hv, hk⟩)
def QaM (C : Ctx) (p_a : Int) (p_b : Int) (K : Int → Heap → Prop) (H : Heap) : Prop :=
 Spec Tryz.prog C 112 [.int .i64 p_a, .int .i64 p_b] H (fun v H2 => ∃ (r0 : Int), v = .int .i64 r0 ∧ K r0 H2)
def Qaz (C : Ctx) (p_s : Str) (p_prefix : Str) (K : Str → Heap → Prop) (H : Heap) : Prop :=
 Spec Tryz.prog C 113 [sv p_s, sv p_prefix] H (fun v H2 => ∃ (r0 : Str), v = sv r0 ∧ K r0 H2)
def QeR (C : Ctx) (p_s : Str) (p_c : Int) (K : Str → Heap → Prop) (H : Heap) : Prop :=
 Spec Tryz.prog C 114 [sv p_s, .int .u8 p_c] H (fun v H2 => ∃ (r0 : Str), v = sv r0 ∧ K r0 H2)
def Qeg (C : Ctx) (p_s : Str) (p_c : Int) (K : Str → Heap → Prop) (H : Heap) : Prop :=
 Spec Tryz.prog C 115 [sv p_s, .int .u8 p_c] H (fun v H2 => ∃ (r0 : Str), v = sv r0 ∧ K r0 H2)
def QE (C : Ctx) (p_chars : Str) (K : List Value → Bool → Heap → Prop) (H : Heap) : Prop :=
 Spec Tryz.prog C 116 [sv p_chars] H (fun v H2 => ∃ (r0 : List Value) (r1 : Bool), v = .tuple #[.agg (List.toArray r0), .bool r1] ∧ K r0 r1 H2)
theorem QE.gh {C : Ctx} {p_chars : Str} {K : List Value → Bool → Heap → Prop} {H : Heap} (h : QE C p_chars (fun r0 r1 H2 => ∃ H0, Gh C H2 H0 ∧ K r0 r1 H0) H) : QE C p_chars K H :=
 Spec.gh (Spec.mono h fun _ H2 ⟨r0, r1, hv, H0, hg, hk⟩ => ⟨H0, hg, r0, r1, hv, hk⟩)
def QaW (C : Ctx) (p_s : Str) (p_as : Option (Nat × Nat)) (K : Str → Heap → Prop) (H : Heap) : Prop :=
 Spec Tryz.prog C 117 [sv p_s, pv p_as] H (fun v H2 => ∃ (r0 : Str), v = sv r0 ∧ K r0 H2)
def QaJ (C : Ctx) (p_s : Str) (p_as : Option (Nat × Nat)) (K : Str → Heap → Prop) (H : Heap) : Prop :=
 Spec Tryz.prog C 118 [sv p_s, pv p_as] H (fun v H2 => ∃ (r0 : Str), v = sv r0 ∧ K r0 H2)
def QdO (C : Ctx) (p_s : Str) (p_cutset : Str) (K : Str → Heap → Prop) (H : Heap) : Prop :=
 Spec Tryz.prog C 119 [sv p_s, sv p_cutset] H (fun v H2 => ∃ (r0 : Str), v = sv r0 ∧ K r0 H2)
def Qdr (C : Ctx) (p_s : Str) (p_cutset : Str) (K : Str → Heap → Prop) (H : Heap) : Prop :=
 Spec Tryz.prog C 120 [sv p_s, sv p_cutset] H (fun v H2 => ∃ (r0 : Str), v = sv r0 ∧ K r0 H2)
def Qai (C : Ctx) (p_s : Str) (p_substr : Str) (K : Int → Heap → Prop) (H : Heap) : Prop :=
 Spec Tryz.prog C 121 [sv p_s, sv p_substr] H (fun v H2 => ∃ (r0 : Int), v = .int .i64 r0 ∧ K r0 H2)
def QV (C : Ctx) (p_data : Sl) (p_a : Int) (p_m : Int) (p_b : Int) (p_cmp : Value) (K : Heap → Prop) (H : Heap) : Prop :=
 Spec Tryz.prog C 122 [slv p_data, .int .i64 p_a, .int .i64 p_m, .int .i64 p_b, p_cmp] H (fun v H2 => v = .tuple #[] ∧ K H2)
def QbO (C : Ctx) (p_x : Int) (p_y : Int) (K : Int → Heap → Prop) (H : Heap) : Prop :=
 Spec Tryz.prog C 123 [.int .u8 p_x, .int .u8 p_y] H (fun v H2 => ∃ (r0 : Int), v = .int .i64 r0 ∧ K r0 H2)
def QaC (C : Ctx) (p_a : Str) (p_b : Str) (K : Int → Heap → Prop) (H : Heap) : Prop :=
 Spec Tryz.prog C 124 [sv p_a, sv p_b] H (fun v H2 => ∃ (r0 : Int), v = .int .i64 r0 ∧ K r0 H2)
theorem QaC.gh {C : Ctx} {p_a : Str} {p_b : Str} {K : Int → Heap → Prop} {H : Heap} (h : QaC C p_a p_b (fun r0 H2 => ∃ H0, Gh C H2 H0 ∧ K r0 H0) H) : QaC C p_a p_b K H :=
 Spec.gh (Spec.mono h fun _ H2 ⟨r0, hv, H0, hg, hk⟩ => ⟨H0, hg, r0, hv, hk⟩)
def Qag (C : Ctx) (p_x : Str) (p_y : Str) (K : Int → Heap → Prop) (H : Heap) : Prop :=
 Spec Tryz.prog C 125 [sv p_x, sv p_y] H (fun v H2 => ∃ (r0 : Int), v = .int .i64 r0 ∧ K r0 H2)
def Qdu (C : Ctx) (p_vals : Sl) (K : Int → Heap → Prop) (H : Heap) : Prop :=
 Spec Tryz.prog C 126 [slv p_vals] H (fun v H2 => ∃ (r0 : Int), v = .int .i64 r0 ∧ K r0 H2)
def QbN (C : Ctx) (p_x : Int) (p_y : Int) (K : Int → Heap → Prop) (H : Heap) : Prop :=
 Spec Tryz.prog C 127 [.int .i64 p_x, .int .i64 p_y] H (fun v H2 => ∃ (r0 : Int), v = .int .i64 r0 ∧ K r0 H2)
def Qaj (C : Ctx) (p_v : Qb) (K : Int → Heap → Prop) (H : Heap) : Prop :=
 Spec Tryz.prog C 133 [.agg (Qb.c p_v).toArray] H (fun v H2 => ∃ (r0 : Int), v = .int .i64 r0 ∧ K r0 H2)
theorem Qaj.gh {C : Ctx} {p_v : Qb} {K : Int → Heap → Prop} {H : Heap} (h : Qaj C p_v (fun r0 H2 => ∃ H0, Gh C H2 H0 ∧ K r0 H0) H) : Qaj C p_v K H :=
 Spec.gh (Spec.mono h fun _ H2 ⟨r0, hv, H0, hg, hk⟩ => ⟨H0, hg, r0, hv, hk⟩)
def QaB (C : Ctx) (p_v : Qb) (K : Bool → Heap → Prop) (H : Heap) : Prop :=
 Spec Tryz.prog C 134 [.agg (Qb.c p_v).toArray] H (fun v H2 => ∃ (r0 : Bool), v = .bool r0 ∧ K r0 H2)
theorem QaB.gh {C : Ctx} {p_v : Qb} {K : Bool → Heap → Prop} {H : Heap} (h : QaB C p_v (fun r0 H2 => ∃ H0, Gh C H2 H0 ∧ K r0 H0) H) : QaB C p_v K H :=
 Spec.gh (Spec.mono h fun _ H2 ⟨r0, hv, H0, hg, hk⟩ => ⟨H0, hg, r0, hv, hk⟩)
def QaA (C : Ctx) (p_v : Qb) (K : Bool → Heap → Prop) (H : Heap) : Prop :=
 Spec Tryz.prog C 135 [.agg (Qb.c p_v).toArray] H (fun v H2 => ∃ (r0 : Bool), v = .bool r0 ∧ K r0 H2)
theorem QaA.gh {C : Ctx} {p_v : Qb} {K : Bool → Heap → Prop} {H : Heap} (h : QaA C p_v (fun r0 H2 => ∃ H0, Gh C H2 H0 ∧ K r0 H0) H) : QaA C p_v K H :=
 Spec.gh (Spec.mono h fun _ H2 ⟨r0, hv, H0, hg, hk⟩ => ⟨H0, hg, r0, hv, hk⟩)
def Qcx (C : Ctx) (p_a : Str) (p_b : Str) (K : Int → Heap → Prop) (H : Heap) : Prop :=
 Spec Tryz.prog C 136 [sv p_a, sv p_b] H (fun v H2 => ∃ (r0 : Int), v = .int .i64 r0 ∧ K r0 H2)
def Qcc (C : Ctx) (p_a : Str) (p_b : Str) (K : Int → Heap → Prop) (H : Heap) : Prop :=
 Spec Tryz.prog C 137 [sv p_a, sv p_b] H (fun v H2 => ∃ (r0 : Int), v = .int .i64 r0 ∧ K r0 H2)
def QH (C : Ctx) (p_s : Str) (p_prefix : Str) (K : Bool → Heap → Prop) (H : Heap) : Prop :=
 Spec Tryz.prog C 138 [sv p_s, sv p_prefix] H (fun v H2 => ∃ (r0 : Bool), v = .bool r0 ∧ K r0 H2)
def QY (C : Ctx) (p_as : Option (Nat × Nat)) (p_c : Int) (K : Bool → Heap → Prop) (H : Heap) : Prop :=
 Spec Tryz.prog C 139 [pv p_as, .int .u8 p_c] H (fun v H2 => ∃ (r0 : Bool), v = .bool r0 ∧ K r0 H2)
def Q5 (C : Ctx) (p_s : Str) (p_c : Int) (K : Int → Heap → Prop) (H : Heap) : Prop :=
 Spec Tryz.prog C 143 [sv p_s, .int .u8 p_c] H (fun v H2 => ∃ (r0 : Int), v = .int .i64 r0 ∧ K r0 H2)
def Qdq (C : Ctx) (p_n : Int) (K : Int → Heap → Prop) (H : Heap) : Prop :=
 Spec Tryz.prog C 145 [.int .i64 p_n] H (fun v H2 => ∃ (r0 : Int), v = .int .i64 r0 ∧ K r0 H2)
def Qbi (C : Ctx) (p_s : Str) (p_sep : Str) (K : Int → Heap → Prop) (H : Heap) : Prop :=
 Spec Tryz.prog C 146 [sv p_s, sv p_sep] H (fun v H2 => ∃ (r0 : Int), v = .int .i64 r0 ∧ K r0 H2)
def Qu (C : Ctx) (p_data : Sl) (p_a : Int) (p_b : Int) (p_n : Int) (p_cmp : Value) (K : Heap → Prop) (H : Heap) : Prop :=
 Spec Tryz.prog C 147 [slv p_data, .int .i64 p_a, .int .i64 p_b, .int .i64 p_n, p_cmp] H (fun v H2 => v = .tuple #[] ∧ K H2)
def Qbs (C : Ctx) (p_x : Int) (K : Bool → Heap → Prop) (H : Heap) : Prop :=
 Spec Tryz.prog C 148 [.int .u8 p_x] H (fun v H2 => ∃ (r0 : Bool), v = .bool r0 ∧ K r0 H2)
def QaV (C : Ctx) (p_s : Str) (p_prefix : Str) (K : Bool → Heap → Prop) (H : Heap) : Prop :=
 Spec Tryz.prog C 149 [sv p_s, sv p_prefix] H (fun v H2 => ∃ (r0 : Bool), v = .bool r0 ∧ K r0 H2)
def Qcm (C : Ctx) (p_x : Int) (p_y : Int) (K : Int → Heap → Prop) (H : Heap) : Prop :=
 Spec Tryz.prog C 150 [.int .i64 p_x, .int .i64 p_y] H (fun v H2 => ∃ (r0 : Int), v = .int .i64 r0 ∧ K r0 H2)
def Qba (C : Ctx) (p_x : Str) (K : Bool → Heap → Prop) (H : Heap) : Prop :=
 Spec Tryz.prog C 151 [sv p_x] H (fun v H2 => ∃ (r0 : Bool), v = .bool r0 ∧ K r0 H2)
def Qbr (C : Ctx) (p_x : Int) (K : Bool → Heap → Prop) (H : Heap) : Prop :=
 Spec Tryz.prog C 152 [.int .i64 p_x] H (fun v H2 => ∃ (r0 : Bool), v = .bool r0 ∧ K r0 H2)
def QdN (C : Ctx) (p_s : Str) (K : Bool → Heap → Prop) (H : Heap) : Prop :=
 Spec Tryz.prog C 158 [sv p_s] H (fun v H2 => ∃ (r0 : Bool), v = .bool r0 ∧ K r0 H2)
def Qee (C : Ctx) (p_s : Str) (K : Bool → Heap → Prop) (H : Heap) : Prop :=
 Spec Tryz.prog C 159 [sv p_s] H (fun v H2 => ∃ (r0 : Bool), v = .bool r0 ∧ K r0 H2)
def QdM (C : Ctx) (p_s : Str) (K : Int → Heap → Prop) (H : Heap) : Prop :=
 Spec Tryz.prog C 160 [sv p_s] H (fun v H2 => ∃ (r0 : Int), v = .int .i64 r0 ∧ K r0 H2)
def Qb6 (C : Ctx) (p_x : Int) (K : Bool → Heap → Prop) (H : Heap) : Prop :=
 Spec Tryz.prog C 166 [.int .i64 p_x] H (fun v H2 => ∃ (r0 : Bool), v = .bool r0 ∧ K r0 H2)
def Qcy (C : Ctx) (p_s : Str) (K : Bool → Heap → Prop) (H : Heap) : Prop :=
 Spec Tryz.prog C 169 [sv p_s] H (fun v H2 => ∃ (r0 : Bool), v = .bool r0 ∧ K r0 H2)
def Qcq (C : Ctx) (p_c : Int) (K : Bool → Heap → Prop) (H : Heap) : Prop :=
 Spec Tryz.prog C 172 [.int .u8 p_c] H (fun v H2 => ∃ (r0 : Bool), v = .bool r0 ∧ K r0 H2)
def QcD (C : Ctx) (p_c : Qi) (K : Bool → Heap → Prop) (H : Heap) : Prop :=
 nw (Qi.c p_c) (fun b1 H2 =>
 ldT H2 Qi.c (b1, 0) fun x3 =>
 QU C x3 (fun r5 H6 =>
 ift r5
 (Qb9 C (fun r8 H9 =>
 K r8 H9) H6)
 (dr H6 fun Hs10 =>
 ldL Hs10 ((b1, 0).1, (b1, 0).2 + 0) fun x12 =>
 ldL Hs10 ((b1, 0).1, (b1, 0).2 + 1) fun x14 =>
 ldL Hs10 ((b1, 0).1, (b1, 0).2 + 2) fun x16 =>
 ldL Hs10 ((b1, 0).1, (b1, 0).2 + 3) fun x18 =>
 ldL Hs10 ((b1, 0).1, (b1, 0).2 + 4) fun x20 =>
 Qbt C x12 (fun r23 H24 =>
 Heap.le Hs10 H24 ∧
 Qbt C x14 (fun r26 H27 =>
 Heap.le Hs10 H27 ∧
 Qbt C x16 (fun r29 H30 =>
 Heap.le Hs10 H30 ∧
 Qbt C x18 (fun r32 H33 =>
 Heap.le Hs10 H33 ∧
 Qed C x20 (fun r35 H36 =>
 Heap.le Hs10 H36 ∧
 Qbc C r23 r26 r29 r32 r35 (fun r37 r38 H39 =>
 ldL H39 ((b1, 0).1, (b1, 0).2 + 0) fun x40 =>
 ldL H39 ((b1, 0).1, (b1, 0).2 + 1) fun x42 =>
 ldL H39 ((b1, 0).1, (b1, 0).2 + 2) fun x44 =>
 ldL H39 ((b1, 0).1, (b1, 0).2 + 3) fun x46 =>
 ldL H39 ((b1, 0).1, (b1, 0).2 + 4) fun x48 =>
 Qce C x40 x42 x44 x46 x48 (fun r50 r51 H52 =>
 Qcw C r37 r38 r50 r51 (fun r53 H54 =>
 ift (!r53)
 (K false H54)
 (Qbb C r23 r26 r29 r32 r35 (fun r56 r57 H58 =>
 ldL H58 ((b1, 0).1, (b1, 0).2 + 0) fun x59 =>
 ldL H58 ((b1, 0).1, (b1, 0).2 + 1) fun x61 =>
 ldL H58 ((b1, 0).1, (b1, 0).2 + 2) fun x63 =>
 ldL H58 ((b1, 0).1, (b1, 0).2 + 3) fun x65 =>
 ldL H58 ((b1, 0).1, (b1, 0).2 + 4) fun x67 =>
 Qcd C x59 x61 x63 x65 x67 (fun r69 r70 H71 =>
 Qcw C r56 r57 r69 r70 (fun r72 H73 =>
 ift (!r72)
 (K false H73)
 (Qat C r23 r26 (fun r75 r76 H77 =>
 ldL H77 ((b1, 0).1, (b1, 0).2 + 0) fun x78 =>
 ldL H77 ((b1, 0).1, (b1, 0).2 + 1) fun x80 =>
 Qa7 C x78 x80 (fun r82 r83 H84 =>
 dr H84 fun Hs85 =>
 Qcw C r75 r76 r82 r83 (fun r88 H89 =>
 Heap.le Hs85 H89 ∧
 ift r88
 (ldL Hs85 ((b1, 0).1, (b1, 0).2 + 0) fun x91 =>
 Qbk C r23 (fun r94 H95 =>
 Heap.le Hs85 H95 ∧
 Qae C r94 x91 (fun r97 H98 =>
 Heap.le Hs85 H98 ∧
 ift r97
 (ldL Hs85 ((b1, 0).1, (b1, 0).2 + 1) fun x100 =>
 Qbk C r26 (fun r103 H104 =>
 Heap.le Hs85 H104 ∧
 Qae C r103 x100 (fun r106 H107 =>
 Heap.le Hs85 H107 ∧
 ift r106
 (ldL Hs85 ((b1, 0).1, (b1, 0).2 + 2) fun x109 =>
 Qbk C r29 (fun r112 H113 =>
 Heap.le Hs85 H113 ∧
 Qae C r112 x109 (fun r115 H116 =>
 Heap.le Hs85 H116 ∧
 ift r115
 (ldL Hs85 ((b1, 0).1, (b1, 0).2 + 3) fun x118 =>
 Qbk C r32 (fun r121 H122 =>
 Heap.le Hs85 H122 ∧
 Qae C r121 x118 (fun r124 H125 =>
 Heap.le Hs85 H125 ∧
 ift r124
 (Qb9 C (fun r128 H129 =>
 Heap.le Hs85 H129 ∧
 K r128 H129) H125)
 (K false H125)) H122) H116)
 (K false H116)) H113) H107)
 (K false H107)) H104) H98)
 (K false H98)) H95) H89)
 (K false H89)) H84) H77) H73)) H71) H58) H54)) H52) H39) H36) H33) H30) H27) H24) H6)) H2) H
theorem QeT (C p_c K H) (h : QcD C p_c K H) : QD C p_c K H := by
 refine Ye Tryz.func3 rfl Tryz.ntmps3 [(0, .agg (Qi.c p_c).toArray)] (Zo (GL.box (v := .agg (Qi.c p_c).toArray) (cs := Qi.c p_c) h trivial rfl rfl rfl ?_))
 intro b1 H2 h
 refine Za (GL.nil (GC.seq (Zo ?_)))
 obtain ⟨x3, v4, h⟩ := h
 refine Zv (OV.loadT rfl rfl rfl v4) (Zc h Qgi ?_)
 rintro _ H6 ⟨r5, rfl, h⟩
 refine GL.nil (Yd h (fun u7 h => ?_) fun u7 h => ?_)
 refine Zo (Zc h QfG ?_)
 rintro _ H9 ⟨r8, rfl, h⟩
 refine Za (GL.nil ?_)
 exact Y1 I3 ⟨r8, rfl, h⟩
 refine GC.skip (GC.seq ?_)
 obtain ⟨Hs10, hle11, h⟩ := h
 refine GC.any (Hs := Hs10) (by kernel_rfl) hle11 (Zp 0 rfl Yf ?_)
 obtain ⟨x12, v13, h⟩ := h
 refine Zp 1 rfl (Yo v13) (Zp 3 rfl Yf ?_)
 obtain ⟨x14, v15, h⟩ := h
 refine Zp 4 rfl (Yo v15) (Zp 6 rfl Yf ?_)
 obtain ⟨x16, v17, h⟩ := h
 refine Zp 7 rfl (Yo v17) (Zp 9 rfl Yf ?_)
 obtain ⟨x18, v19, h⟩ := h
 refine Zp 10 rfl (Yo v19) (Zp 12 rfl Yf ?_)
 obtain ⟨x20, v21, h⟩ := h
 refine Zp 13 rfl (Yo v21) (GA.eff 2 rfl (by kernel_rfl) (Zc h Qcr ?_))
 rintro _ H24 ⟨r23, rfl, h⟩
 obtain ⟨hle22, h⟩ := h
 refine GA.back hle22 (GA.eff 5 rfl (by kernel_rfl) (Zc h Qcr ?_))
 rintro _ H27 ⟨r26, rfl, h⟩
 obtain ⟨hle25, h⟩ := h
 refine GA.back hle25 (GA.eff 8 rfl (by kernel_rfl) (Zc h Qcr ?_))
 rintro _ H30 ⟨r29, rfl, h⟩
 obtain ⟨hle28, h⟩ := h
 refine GA.back hle28 (GA.eff 11 rfl (by kernel_rfl) (Zc h Qcr ?_))
 rintro _ H33 ⟨r32, rfl, h⟩
 obtain ⟨hle31, h⟩ := h
 refine GA.back hle31 (GA.eff 14 rfl (by kernel_rfl) (Zc h Qjs ?_))
 rintro _ H36 ⟨r35, rfl, h⟩
 obtain ⟨hle34, h⟩ := h
 refine GA.back hle34 (Zp 15 rfl Ya (Zp 16 rfl Ya (Zp 17 rfl Ya (Zp 18 rfl Ya (Zp 19 rfl Ya (GA.done (by kernel_rfl) (GL.nil (Zo (Zm (Zm (Zm (Zm (Zm (Zc h Qdc ?_))))))))))))))
 rintro _ H39 ⟨r37, r38, rfl, h⟩
 refine Zm (Yv (slv r37) rfl rfl (Yv (.int .i64 r38) rfl rfl (Za (Za (GL.nil (Zo (Zf (Yl h fun x40 h => ?_))))))))
 refine Zf (Yl h fun x42 h => ?_)
 refine Zf (Yl h fun x44 h => ?_)
 refine Zf (Yl h fun x46 h => ?_)
 refine Zf (Yl h fun x48 h => ?_)
 refine Zc h Qgk ?_
 rintro _ H52 ⟨r50, r51, rfl, h⟩
 refine Zm (Yv (slv r50) rfl rfl (Yv (.int .i64 r51) rfl rfl (Za (Za (GL.nil (GC.seq (Zo (Zm (Zm (Zm (Zm (Zc h Qeq ?_))))))))))))
 rintro _ H54 ⟨r53, rfl, h⟩
 refine Zv (OV.not rfl) (GL.nil (Yd h (fun u55 h => ?_) fun u55 h => ?_))
 refine Zo (Za (GL.nil ?_))
 exact Y1 I3 ⟨false, rfl, h⟩
 refine GC.skip (Zo (Zm (Zm (Zm (Zm (Zm (Zc h Qdb ?_)))))))
 rintro _ H58 ⟨r56, r57, rfl, h⟩
 refine Zm (Yv (slv r56) rfl rfl (Yv (.int .i64 r57) rfl rfl (Za (Za (GL.nil (Zo (Zf (Yl h fun x59 h => ?_))))))))
 refine Zf (Yl h fun x61 h => ?_)
 refine Zf (Yl h fun x63 h => ?_)
 refine Zf (Yl h fun x65 h => ?_)
 refine Zf (Yl h fun x67 h => ?_)
 refine Zc h Qgj ?_
 rintro _ H71 ⟨r69, r70, rfl, h⟩
 refine Zm (Yv (slv r69) rfl rfl (Yv (.int .i64 r70) rfl rfl (Za (Za (GL.nil (GC.seq (Zo (Zm (Zm (Zm (Zm (Zc h Qeq ?_))))))))))))
 rintro _ H73 ⟨r72, rfl, h⟩
 refine Zv (OV.not rfl) (GL.nil (Yd h (fun u74 h => ?_) fun u74 h => ?_))
 refine Zo (Za (GL.nil ?_))
 exact Y1 I3 ⟨false, rfl, h⟩
 refine GC.skip (Zo (Zm (Zm (Zc h Qcg ?_))))
 rintro _ H77 ⟨r75, r76, rfl, h⟩
 refine Zm (Yv (slv r75) rfl rfl (Yv (.int .i64 r76) rfl rfl (Za (Za (GL.nil (Zo (Zf (Yl h fun x78 h => ?_))))))))
 refine Zf (Yl h fun x80 h => ?_)
 refine Zc h Qeu ?_
 rintro _ H84 ⟨r82, r83, rfl, h⟩
 refine Zm (Yv (slv r82) rfl rfl (Yv (.int .i64 r83) rfl rfl (Za (Za (GL.nil (GC.seq ?_))))))
 obtain ⟨Hs85, hle86, h⟩ := h
 refine GC.any (Hs := Hs85) (by kernel_rfl) hle86 (Zp 0 rfl Ym (Zp 1 rfl Ym (Zp 2 rfl Ym (Zp 3 rfl Ym (GA.eff 4 rfl (by kernel_rfl) (Zc h Qeq ?_))))))
 rintro _ H89 ⟨r88, rfl, h⟩
 obtain ⟨hle87, h⟩ := h
 refine GA.back hle87 (Zp 5 rfl Ym ?_)
 rcases h.em with ⟨u90, h⟩ | ⟨u90, h⟩
 refine Zg 6 rfl (Yt u90) Ym (Zg 8 rfl (Yt u90) Yf ?_)
 obtain ⟨x91, v92, h⟩ := h
 refine Zg 9 rfl (Yt u90) (Yo v92) (GA.eff 7 rfl (by kernel_rfl) (GL.call h (Yt u90) rfl Qch (vs := [slv r23]) rfl ?_))
 rintro _ H95 ⟨r94, rfl, h⟩
 obtain ⟨hle93, h⟩ := h
 refine GA.back hle93 (GA.eff 10 rfl (by kernel_rfl) (GL.call h (Yt u90) rfl Qci (vs := [slv r94, slv x91]) rfl ?_))
 rintro _ H98 ⟨r97, rfl, h⟩
 obtain ⟨hle96, h⟩ := h
 refine GA.back hle96 (Zp 11 rfl (OV.pickT rfl u90 rfl) (Zp 12 rfl Ym ?_))
 rcases h.em with ⟨u99, h⟩ | ⟨u99, h⟩
 refine Zg 13 rfl (Yt u99) Ym (Zg 15 rfl (Yt u99) Yf ?_)
 obtain ⟨x100, v101, h⟩ := h
 refine Zg 16 rfl (Yt u99) (Yo v101) (GA.eff 14 rfl (by kernel_rfl) (GL.call h (Yt u99) rfl Qch (vs := [slv r26]) rfl ?_))
 rintro _ H104 ⟨r103, rfl, h⟩
 obtain ⟨hle102, h⟩ := h
 refine GA.back hle102 (GA.eff 17 rfl (by kernel_rfl) (GL.call h (Yt u99) rfl Qci (vs := [slv r103, slv x100]) rfl ?_))
 rintro _ H107 ⟨r106, rfl, h⟩
 obtain ⟨hle105, h⟩ := h
 refine GA.back hle105 (Zp 18 rfl (OV.pickT rfl u99 rfl) (Zp 19 rfl Ym ?_))
 rcases h.em with ⟨u108, h⟩ | ⟨u108, h⟩
 refine Zg 20 rfl (Yt u108) Ym (Zg 22 rfl (Yt u108) Yf ?_)
 obtain ⟨x109, v110, h⟩ := h
 refine Zg 23 rfl (Yt u108) (Yo v110) (GA.eff 21 rfl (by kernel_rfl) (GL.call h (Yt u108) rfl Qch (vs := [slv r29]) rfl ?_))
 rintro _ H113 ⟨r112, rfl, h⟩
 obtain ⟨hle111, h⟩ := h
 refine GA.back hle111 (GA.eff 24 rfl (by kernel_rfl) (GL.call h (Yt u108) rfl Qci (vs := [slv r112, slv x109]) rfl ?_))
 rintro _ H116 ⟨r115, rfl, h⟩
 obtain ⟨hle114, h⟩ := h
 refine GA.back hle114 (Zp 25 rfl (OV.pickT rfl u108 rfl) (Zp 26 rfl Ym ?_))
 rcases h.em with ⟨u117, h⟩ | ⟨u117, h⟩
 refine Zg 27 rfl (Yt u117) Ym (Zg 29 rfl (Yt u117) Yf ?_)
 obtain ⟨x118, v119, h⟩ := h
 refine Zg 30 rfl (Yt u117) (Yo v119) (GA.eff 28 rfl (by kernel_rfl) (GL.call h (Yt u117) rfl Qch (vs := [slv r32]) rfl ?_))
 rintro _ H122 ⟨r121, rfl, h⟩
 obtain ⟨hle120, h⟩ := h
 refine GA.back hle120 (GA.eff 31 rfl (by kernel_rfl) (GL.call h (Yt u117) rfl Qci (vs := [slv r121, slv x118]) rfl ?_))
 rintro _ H125 ⟨r124, rfl, h⟩
 obtain ⟨hle123, h⟩ := h
 refine GA.back hle123 (Zp 32 rfl (OV.pickT rfl u117 rfl) (Zp 33 rfl Ym ?_))
 rcases h.em with ⟨u126, h⟩ | ⟨u126, h⟩
 refine GA.eff 34 rfl (by kernel_rfl) (GL.call h (Yt u126) rfl QfG (vs := []) rfl ?_)
 rintro _ H129 ⟨r128, rfl, h⟩
 obtain ⟨hle127, h⟩ := h
 refine GA.back hle127 (Zp 35 rfl (OV.pickT rfl u126 rfl) (Zp 36 rfl Ya (GA.done (by kernel_rfl) (GL.nil ?_))))
 exact Y1 I3 ⟨r128, rfl, h⟩
 refine Zj 34 rfl (Yw u126) (Zp 35 rfl (OV.pickF rfl u126 rfl) (Zp 36 rfl Ya (GA.done (by kernel_rfl) (GL.nil ?_))))
 exact Y1 I3 ⟨false, rfl, h⟩
 refine Zj 27 rfl (Yw u117) (Zj 28 rfl (Yw u117) (Zj 29 rfl (Yw u117) (Zj 30 rfl (Yw u117) (Zj 31 rfl (Yw u117) (Zp 32 rfl (OV.pickF rfl u117 rfl) (Zp 33 rfl Ym (Zj 34 rfl (Yw rfl) (Zp 35 rfl (OV.pickF rfl rfl rfl) (Zp 36 rfl Ya (GA.done (by kernel_rfl) (GL.nil ?_)))))))))))
 exact Y1 I3 ⟨false, rfl, h⟩
 refine Zj 20 rfl (Yw u108) (Zj 21 rfl (Yw u108) (Zj 22 rfl (Yw u108) (Zj 23 rfl (Yw u108) (Zj 24 rfl (Yw u108) (Zp 25 rfl (OV.pickF rfl u108 rfl) (Zp 26 rfl Ym (Zj 27 rfl (Yw rfl) (Zj 28 rfl (Yw rfl) (Zj 29 rfl (Yw rfl) (Zj 30 rfl (Yw rfl) (Zj 31 rfl (Yw rfl) (Zp 32 rfl (OV.pickF rfl rfl rfl) (Zp 33 rfl Ym (Zj 34 rfl (Yw rfl) (Zp 35 rfl (OV.pickF rfl rfl rfl) (Zp 36 rfl Ya (GA.done (by kernel_rfl) (GL.nil ?_))))))))))))))))))
 exact Y1 I3 ⟨false, rfl, h⟩
 refine Zj 13 rfl (Yw u99) (Zj 14 rfl (Yw u99) (Zj 15 rfl (Yw u99) (Zj 16 rfl (Yw u99) (Zj 17 rfl (Yw u99) (Zp 18 rfl (OV.pickF rfl u99 rfl) (Zp 19 rfl Ym (Zj 20 rfl (Yw rfl) (Zj 21 rfl (Yw rfl) (Zj 22 rfl (Yw rfl) (Zj 23 rfl (Yw rfl) (Zj 24 rfl (Yw rfl) (Zp 25 rfl (OV.pickF rfl rfl rfl) (Zp 26 rfl Ym (Zj 27 rfl (Yw rfl) (Zj 28 rfl (Yw rfl) (Zj 29 rfl (Yw rfl) (Zj 30 rfl (Yw rfl) (Zj 31 rfl (Yw rfl) (Zp 32 rfl (OV.pickF rfl rfl rfl) (Zp 33 rfl Ym (Zj 34 rfl (Yw rfl) (Zp 35 rfl (OV.pickF rfl rfl rfl) (Zp 36 rfl Ya (GA.done (by kernel_rfl) (GL.nil ?_)))))))))))))))))))))))))
 exact Y1 I3 ⟨false, rfl, h⟩
 refine Zj 6 rfl (Yw u90) (Zj 7 rfl (Yw u90) (Zj 8 rfl (Yw u90) (Zj 9 rfl (Yw u90) (Zj 10 rfl (Yw u90) (Zp 11 rfl (OV.pickF rfl u90 rfl) (Zp 12 rfl Ym (Zj 13 rfl (Yw rfl) (Zj 14 rfl (Yw rfl) (Zj 15 rfl (Yw rfl) (Zj 16 rfl (Yw rfl) (Zj 17 rfl (Yw rfl) (Zp 18 rfl (OV.pickF rfl rfl rfl) (Zp 19 rfl Ym (Zj 20 rfl (Yw rfl) (Zj 21 rfl (Yw rfl) (Zj 22 rfl (Yw rfl) (Zj 23 rfl (Yw rfl) (Zj 24 rfl (Yw rfl) (Zp 25 rfl (OV.pickF rfl rfl rfl) (Zp 26 rfl Ym (Zj 27 rfl (Yw rfl) (Zj 28 rfl (Yw rfl) (Zj 29 rfl (Yw rfl) (Zj 30 rfl (Yw rfl) (Zj 31 rfl (Yw rfl) (Zp 32 rfl (OV.pickF rfl rfl rfl) (Zp 33 rfl Ym (Zj 34 rfl (Yw rfl) (Zp 35 rfl (OV.pickF rfl rfl rfl) (Zp 36 rfl Ya (GA.done (by kernel_rfl) (GL.nil ?_))))))))))))))))))))))))))))))))
 exact Y1 I3 ⟨false, rfl, h⟩
def Qdm (C : Ctx) (p_c : Qi) (K : Bool → Heap → Prop) (H : Heap) : Prop :=
 nw (Qi.c p_c) (fun b1 H2 =>
 ldL H2 ((b1, 0).1, (b1, 0).2 + 0) fun x3 =>
 Qbu C x3 (fun r5 H6 =>
 jn (α := Bool) (fun b7 H15 =>
 jn (α := Bool) (fun b16 H24 =>
 jn (α := Bool) (fun b25 H33 =>
 jn (α := Bool) (fun b34 H40 =>
 K b34 H40)
 (fun J35 => ift b25
 (J35 true H33)
 (ldL H33 ((b1, 0).1, (b1, 0).2 + 4) fun x38 =>
 J35 (decide (((Sl.len x38 : Int) : Int) > 20)) H33)))
 (fun J26 => ift b16
 (J26 true H24)
 (ldL H24 ((b1, 0).1, (b1, 0).2 + 3) fun x29 =>
 Qbu C x29 (fun r31 H32 =>
 J26 r31 H32) H24)))
 (fun J17 => ift b7
 (J17 true H15)
 (ldL H15 ((b1, 0).1, (b1, 0).2 + 2) fun x20 =>
 Qbu C x20 (fun r22 H23 =>
 J17 r22 H23) H15)))
 (fun J8 => ift r5
 (J8 true H6)
 (ldL H6 ((b1, 0).1, (b1, 0).2 + 1) fun x11 =>
 Qbu C x11 (fun r13 H14 =>
 J8 r13 H14) H6))) H2) H
theorem Qgb (C p_c K H) (h : Qdm C p_c K H) : QU C p_c K H := by
 refine Ye Tryz.func8 rfl Tryz.ntmps8 [(0, .agg (Qi.c p_c).toArray)] (Zo (GL.box (v := .agg (Qi.c p_c).toArray) (cs := Qi.c p_c) h trivial rfl rfl rfl ?_))
 intro b1 H2 h
 refine Za (GL.nil (Zo (Zf (Yl h fun x3 h => ?_))))
 refine Zc h Qcs ?_
 rintro _ H6 ⟨r5, rfl, h⟩
 refine Zm ?_
 obtain ⟨J8, h, hR9⟩ := h
 refine GL.cut (α := Bool) 4 J8 (fun b7 => [(10, .bool b7), (1, pv (some (b1, 0)))]) ?_ ?_
 rcases h.em with ⟨u10, h⟩ | ⟨u10, h⟩
 refine Zk u10 (Zk u10 (Zk u10 (Zt u10 ?_)))
 exact Yj I3 true h
 refine Zu u10 Yf ?_
 obtain ⟨x11, v12, h⟩ := h
 refine Zu u10 (Yo v12) (GL.call h (Yt u10) rfl Qcs (vs := [slv x11]) rfl ?_)
 rintro _ H14 ⟨r13, rfl, h⟩
 refine Zn u10 ?_
 exact Yj I3 r13 h
 intro b7 H15 h
 replace h := hR9 b7 H15 h
 refine Zm ?_
 obtain ⟨J17, h, hR18⟩ := h
 refine GL.cut (α := Bool) 4 J17 (fun b16 => [(15, .bool b16), (1, pv (some (b1, 0)))]) ?_ ?_
 rcases h.em with ⟨u19, h⟩ | ⟨u19, h⟩
 refine Zk u19 (Zk u19 (Zk u19 (Zt u19 ?_)))
 exact Yj I3 true h
 refine Zu u19 Yf ?_
 obtain ⟨x20, v21, h⟩ := h
 refine Zu u19 (Yo v21) (GL.call h (Yt u19) rfl Qcs (vs := [slv x20]) rfl ?_)
 rintro _ H23 ⟨r22, rfl, h⟩
 refine Zn u19 ?_
 exact Yj I3 r22 h
 intro b16 H24 h
 replace h := hR18 b16 H24 h
 refine Zm ?_
 obtain ⟨J26, h, hR27⟩ := h
 refine GL.cut (α := Bool) 4 J26 (fun b25 => [(20, .bool b25), (1, pv (some (b1, 0)))]) ?_ ?_
 rcases h.em with ⟨u28, h⟩ | ⟨u28, h⟩
 refine Zk u28 (Zk u28 (Zk u28 (Zt u28 ?_)))
 exact Yj I3 true h
 refine Zu u28 Yf ?_
 obtain ⟨x29, v30, h⟩ := h
 refine Zu u28 (Yo v30) (GL.call h (Yt u28) rfl Qcs (vs := [slv x29]) rfl ?_)
 rintro _ H32 ⟨r31, rfl, h⟩
 refine Zn u28 ?_
 exact Yj I3 r31 h
 intro b25 H33 h
 replace h := hR27 b25 H33 h
 refine Zm ?_
 obtain ⟨J35, h, hR36⟩ := h
 refine GL.cut (α := Bool) 5 J35 (fun b34 => [(26, .bool b34)]) ?_ ?_
 rcases h.em with ⟨u37, h⟩ | ⟨u37, h⟩
 refine Zk u37 (Zk u37 (Zk u37 (Zk u37 (Zt u37 ?_))))
 exact Yj I3 true h
 refine Zu u37 Yf ?_
 obtain ⟨x38, v39, h⟩ := h
 refine Zu u37 (Yo v39) (Zu u37 (OV.lenSl rfl rfl) (Zu u37 (OV.ibin (v := .bool (decide (((Sl.len x38 : Int) : Int) > 20))) rfl rfl rfl) (Zn u37 ?_)))
 exact Yj I3 (decide (((Sl.len x38 : Int) : Int) > 20)) h
 intro b34 H40 h
 replace h := hR36 b34 H40 h
 refine Za (GL.nil ?_)
 exact Y1 I3 ⟨b34, rfl, h⟩
def QfN (C : Ctx) (K : Bool → Heap → Prop) (H : Heap) : Prop :=
 Qar C 1 (fun r1 H2 =>
 Qbj C [120] (fun r3 H4 =>
 nw ((Qb.c r1) ++ (Qb.c r3) ++ []) (fun b5 H6 =>
 Qar C 2 (fun r7 H8 =>
 Qbj C [121] (fun r9 H10 =>
 nw ((Qb.c r7) ++ (Qb.c r9) ++ []) (fun b11 H12 =>
 nw ((Qa.c (⟨(Sl.of (some (b5, 0)) 2 2), 2⟩ : Qa)) ++ (Qa.c (⟨(Sl.of (some (b11, 0)) 2 2), 1⟩ : Qa)) ++ []) (fun b13 H14 =>
 Qar C 1 (fun r15 H16 =>
 nw ((Qb.c r15) ++ []) (fun b17 H18 =>
 nw ((Qa.c (⟨(Sl.of (some (b17, 0)) 1 1), 3⟩ : Qa)) ++ []) (fun b19 H20 =>
 Qar C 2 (fun r21 H22 =>
 nw ((Qb.c r21) ++ []) (fun b23 H24 =>
 nw ((Qa.c (⟨(Sl.of (some (b23, 0)) 1 1), 1⟩ : Qa)) ++ []) (fun b25 H26 =>
 nw ((Qg.c (⟨0, 0⟩ : Qg)) ++ []) (fun b27 H28 =>
 QeX C (Sl.of (some (b13, 0)) 2 2) (Sl.of (some (b19, 0)) 1 1) (Sl.of (some (b27, 0)) 1 1) (fun r29 r30 H31 =>
 QeW C (Sl.of (some (b13, 0)) 2 2) (Sl.of (some (b19, 0)) 1 1) (Sl.of (some (b27, 0)) 1 1) (fun r32 r33 H34 =>
 Qbc C (Sl.of (some (b13, 0)) 2 2) Sl.nil (Sl.of (some (b19, 0)) 1 1) (Sl.of (some (b25, 0)) 1 1) (Sl.of (some (b27, 0)) 1 1) (fun r35 r36 H37 =>
 Qbb C (Sl.of (some (b13, 0)) 2 2) Sl.nil (Sl.of (some (b19, 0)) 1 1) (Sl.of (some (b25, 0)) 1 1) (Sl.of (some (b27, 0)) 1 1) (fun r38 r39 H40 =>
 dr H40 fun Hs41 =>
 ixa (Sl.of (some (b13, 0)) 2 2) 0 fun p43 =>
 ldL Hs41 ((p43.1, p43.2 + (0 : Int).toNat * 2).1, (p43.1, p43.2 + (0 : Int).toNat * 2).2 + 0) fun x48 =>
 Qar C 3 (fun r51 H52 =>
 Heap.le Hs41 H52 ∧
 Qbj C [122] (fun r54 H55 =>
 Heap.le Hs41 H55 ∧
 nw ((Qb.c r51) ++ (Qb.c r54) ++ []) (fun b57 H58 =>
 Heap.le Hs41 H58 ∧
 nw ((Qa.c (⟨x48, (-2)⟩ : Qa)) ++ (Qa.c (⟨(Sl.of (some (b57, 0)) 2 2), 5⟩ : Qa)) ++ []) (fun b60 H61 =>
 Heap.le Hs41 H61 ∧
 Qat C (Sl.of (some (b13, 0)) 2 2) (Sl.of (some (b60, 0)) 2 2) (fun r63 r64 H65 =>
 Heap.le Hs41 H65 ∧
 jn (α := Bool) (fun b67 H78 =>
 jn (α := Bool) (fun b79 H90 =>
 jn (α := Bool) (fun b93 H111 =>
 jn (α := Bool) (fun b114 H125 =>
 jn (α := Bool) (fun b126 H144 =>
 jn (α := Bool) (fun b147 H158 =>
 jn (α := Bool) (fun b161 H172 =>
 jn (α := Bool) (fun b173 H184 =>
 K b173 H184)
 (fun J174 => ift b161
 (ixa r63 1 fun p177 =>
 ldI H172 .i64 ((p177.1, p177.2 + (1 : Int).toNat * 2).1, (p177.1, p177.2 + (1 : Int).toNat * 2).2 + 1) fun x182 =>
 J174 ((x182 : Int) == 1) H172)
 (J174 false H172)))
 (fun J162 => ift ((b147 && ((r64 : Int) == 0)) && (((Sl.len r63 : Int) : Int) == 2))
 (ixa r63 0 fun p165 =>
 ldI H158 .i64 ((p165.1, p165.2 + (0 : Int).toNat * 2).1, (p165.1, p165.2 + (0 : Int).toNat * 2).2 + 1) fun x170 =>
 J162 ((x170 : Int) == (-1)) H158)
 (J162 false H158)))
 (fun J148 => ift ((b126 && ((r39 : Int) == 0)) && (((Sl.len r38 : Int) : Int) == 1))
 (ixa r38 0 fun p151 =>
 ldI H144 .i64 ((p151.1, p151.2 + (0 : Int).toNat * 2).1, (p151.1, p151.2 + (0 : Int).toNat * 2).2 + 1) fun x156 =>
 J148 ((x156 : Int) == (-1)) H144)
 (J148 false H144)))
 (fun J127 => ift b114
 (ixa r35 0 fun p130 =>
 ldL H125 ((p130.1, p130.2 + (0 : Int).toNat * 2).1, (p130.1, p130.2 + (0 : Int).toNat * 2).2 + 0) fun x135 =>
 ixa x135 2 fun p137 =>
 ldI H125 .i64 ((p137.1, p137.2 + (2 : Int).toNat * 4).1, (p137.1, p137.2 + (2 : Int).toNat * 4).2 + 1) fun x142 =>
 J127 ((x142 : Int) == 2) H125)
 (J127 false H125)))
 (fun J115 => ift ((b93 && ((r36 : Int) == 0)) && (((Sl.len r35 : Int) : Int) == 1))
 (ixa r35 0 fun p118 =>
 ldI H111 .i64 ((p118.1, p118.2 + (0 : Int).toNat * 2).1, (p118.1, p118.2 + (0 : Int).toNat * 2).2 + 1) fun x123 =>
 J115 ((x123 : Int) == 1) H111)
 (J115 false H111)))
 (fun J94 => ift ((b79 && ((r33 : Int) == 0)) && (((Sl.len r32 : Int) : Int) == 1))
 (ixa r32 0 fun p97 =>
 ldL H90 ((p97.1, p97.2 + (0 : Int).toNat * 2).1, (p97.1, p97.2 + (0 : Int).toNat * 2).2 + 0) fun x102 =>
 ixa x102 0 fun p104 =>
 ldI H90 .i64 ((p104.1, p104.2 + (0 : Int).toNat * 4).1, (p104.1, p104.2 + (0 : Int).toNat * 4).2 + 1) fun x109 =>
 J94 ((x109 : Int) == 2) H90)
 (J94 false H90)))
 (fun J80 => ift b67
 (ixa r29 0 fun p83 =>
 ldL H78 ((p83.1, p83.2 + (0 : Int).toNat * 2).1, (p83.1, p83.2 + (0 : Int).toNat * 2).2 + 0) fun x88 =>
 J80 (((Sl.len x88 : Int) : Int) == 3) H78)
 (J80 false H78)))
 (fun J68 => ift (((r30 : Int) == 0) && (((Sl.len r29 : Int) : Int) == 1))
 (ixa r29 0 fun p71 =>
 ldI H65 .i64 ((p71.1, p71.2 + (0 : Int).toNat * 2).1, (p71.1, p71.2 + (0 : Int).toNat * 2).2 + 1) fun x76 =>
 J68 ((x76 : Int) == 6) H65)
 (J68 false H65))) H61) H58) H55) H52) H40) H37) H34) H31) H28) H26) H24) H22) H20) H18) H16) H14) H12) H10) H8) H6) H4) H2) H
theorem Qi7 (C : Ctx) (K : Bool → Heap → Prop) (H : Heap) (h : QfN C  K H) : Qb9 C  K H := by
 refine Spec.enter Tryz.func9 rfl Tryz.ntmps9 rfl (GC.sub [] trivial (Zo (Za (GL.nil (Zo (Za (GL.nil (Zo (Za (GL.nil (Zo (Zm (GL.callV (fs := []) (vs := [.int .i64 1]) (cs := []) h trivial rfl Qa1 rfl rfl ?_)))))))))))))
 rintro _ H2 ⟨r1, rfl, h⟩
 refine Zm (GL.callV (fs := []) (vs := [sv [120]]) (cs := []) h trivial rfl QcK rfl rfl ?_)
 rintro _ H4 ⟨r3, rfl, h⟩
 refine GL.buildSlice (cs := (Qb.c r1) ++ (Qb.c r3) ++ []) h trivial rfl (vs := [(0, .agg (Qb.c r1).toArray), (1, .agg (Qb.c r3).toArray)]) rfl ⟨44, fun _ => by kernel_rfl⟩ ?_
 intro b5 H6 h
 refine Zv (OV.build (vs := [(0, slv (Sl.of (some (b5, 0)) 2 2)), (1, .int .i64 2)]) (v := .agg (Qa.c (⟨(Sl.of (some (b5, 0)) 2 2), 2⟩ : Qa)).toArray) rfl (fun _ => by kernel_rfl)) (Zm (GL.callV (fs := []) (vs := [.int .i64 2]) (cs := []) h trivial rfl Qa1 rfl rfl ?_))
 rintro _ H8 ⟨r7, rfl, h⟩
 refine Zm (GL.callV (fs := []) (vs := [sv [121]]) (cs := []) h trivial rfl QcK rfl rfl ?_)
 rintro _ H10 ⟨r9, rfl, h⟩
 refine GL.buildSlice (cs := (Qb.c r7) ++ (Qb.c r9) ++ []) h trivial rfl (vs := [(0, .agg (Qb.c r7).toArray), (1, .agg (Qb.c r9).toArray)]) rfl ⟨44, fun _ => by kernel_rfl⟩ ?_
 intro b11 H12 h
 refine Zv (OV.build (vs := [(0, slv (Sl.of (some (b11, 0)) 2 2)), (1, .int .i64 1)]) (v := .agg (Qa.c (⟨(Sl.of (some (b11, 0)) 2 2), 1⟩ : Qa)).toArray) rfl (fun _ => by kernel_rfl)) (GL.buildSlice (cs := (Qa.c (⟨(Sl.of (some (b5, 0)) 2 2), 2⟩ : Qa)) ++ (Qa.c (⟨(Sl.of (some (b11, 0)) 2 2), 1⟩ : Qa)) ++ []) h trivial rfl (vs := [(0, .agg (Qa.c (⟨(Sl.of (some (b5, 0)) 2 2), 2⟩ : Qa)).toArray), (1, .agg (Qa.c (⟨(Sl.of (some (b11, 0)) 2 2), 1⟩ : Qa)).toArray)]) rfl ⟨47, fun _ => by kernel_rfl⟩ ?_)
 intro b13 H14 h
 refine Za (GL.nil (Zo (Zm (GL.callV (fs := []) (vs := [.int .i64 1]) (cs := []) h trivial rfl Qa1 rfl rfl ?_))))
 rintro _ H16 ⟨r15, rfl, h⟩
 refine GL.buildSlice (cs := (Qb.c r15) ++ []) h trivial rfl (vs := [(0, .agg (Qb.c r15).toArray)]) rfl ⟨44, fun _ => by kernel_rfl⟩ ?_
 intro b17 H18 h
 refine Zv (OV.build (vs := [(0, slv (Sl.of (some (b17, 0)) 1 1)), (1, .int .i64 3)]) (v := .agg (Qa.c (⟨(Sl.of (some (b17, 0)) 1 1), 3⟩ : Qa)).toArray) rfl (fun _ => by kernel_rfl)) (GL.buildSlice (cs := (Qa.c (⟨(Sl.of (some (b17, 0)) 1 1), 3⟩ : Qa)) ++ []) h trivial rfl (vs := [(0, .agg (Qa.c (⟨(Sl.of (some (b17, 0)) 1 1), 3⟩ : Qa)).toArray)]) rfl ⟨47, fun _ => by kernel_rfl⟩ ?_)
 intro b19 H20 h
 refine Za (GL.nil (Zo (Zm (GL.callV (fs := []) (vs := [.int .i64 2]) (cs := []) h trivial rfl Qa1 rfl rfl ?_))))
 rintro _ H22 ⟨r21, rfl, h⟩
 refine GL.buildSlice (cs := (Qb.c r21) ++ []) h trivial rfl (vs := [(0, .agg (Qb.c r21).toArray)]) rfl ⟨44, fun _ => by kernel_rfl⟩ ?_
 intro b23 H24 h
 refine Zv (OV.build (vs := [(0, slv (Sl.of (some (b23, 0)) 1 1)), (1, .int .i64 1)]) (v := .agg (Qa.c (⟨(Sl.of (some (b23, 0)) 1 1), 1⟩ : Qa)).toArray) rfl (fun _ => by kernel_rfl)) (GL.buildSlice (cs := (Qa.c (⟨(Sl.of (some (b23, 0)) 1 1), 1⟩ : Qa)) ++ []) h trivial rfl (vs := [(0, .agg (Qa.c (⟨(Sl.of (some (b23, 0)) 1 1), 1⟩ : Qa)).toArray)]) rfl ⟨47, fun _ => by kernel_rfl⟩ ?_)
 intro b25 H26 h
 refine Za (GL.nil (Zo (Zv (OV.build (vs := [(0, .int .i64 0), (1, .int .i64 0)]) (v := .agg (Qg.c (⟨0, 0⟩ : Qg)).toArray) rfl (fun _ => by kernel_rfl)) (GL.buildSlice (cs := (Qg.c (⟨0, 0⟩ : Qg)) ++ []) h trivial rfl (vs := [(0, .agg (Qg.c (⟨0, 0⟩ : Qg)).toArray)]) rfl ⟨50, fun _ => by kernel_rfl⟩ ?_))))
 intro b27 H28 h
 refine Za (GL.nil (Zo (Zm (Zm (Zm (Zc h QkE ?_))))))
 rintro _ H31 ⟨r29, r30, rfl, h⟩
 refine Zm (Yv (slv r29) rfl rfl (Yv (.int .i64 r30) rfl rfl (Za (Za (GL.nil (Zo (Zm (Zm (Zm (Zc h QkD ?_))))))))))
 rintro _ H34 ⟨r32, r33, rfl, h⟩
 refine Zm (Yv (slv r32) rfl rfl (Yv (.int .i64 r33) rfl rfl (Za (Za (GL.nil (Zo (Zm (Zm (Zm (Zm (Zc h Qdc ?_)))))))))))
 rintro _ H37 ⟨r35, r36, rfl, h⟩
 refine Zm (Yv (slv r35) rfl rfl (Yv (.int .i64 r36) rfl rfl (Za (Za (GL.nil (Zo (Zm (Zm (Zm (Zm (Zc h Qdb ?_)))))))))))
 rintro _ H40 ⟨r38, r39, rfl, h⟩
 refine Zm (Yv (slv r38) rfl rfl (Yv (.int .i64 r39) rfl rfl (Za (Za (GL.nil (GC.seq ?_))))))
 obtain ⟨Hs41, hle42, h⟩ := h
 refine GC.any (Hs := Hs41) (by kernel_rfl) hle42 (Zp 0 rfl Ym (Zp 1 rfl Ym ?_))
 obtain ⟨p43, ha44, hb45, u46, hd47, h⟩ := h
 refine Zp 2 rfl (OV.indexAddr rfl rfl rfl rfl ha44 hb45 u46 hd47) (Zp 3 rfl Yf ?_)
 obtain ⟨x48, v49, h⟩ := h
 refine Zp 4 rfl (Yo v49) (Zp 5 rfl (OV.build (vs := [(0, slv x48), (1, .int .i64 (-2))]) (v := .agg (Qa.c (⟨x48, (-2)⟩ : Qa)).toArray) rfl (fun _ => by kernel_rfl)) (Zp 6 rfl Ym (Zp 8 rfl Ym (GA.eff 7 rfl (by kernel_rfl) (GL.callV (fs := []) (vs := [.int .i64 3]) (cs := []) h trivial rfl Qa1 rfl rfl ?_)))))
 rintro _ H52 ⟨r51, rfl, h⟩
 obtain ⟨hle50, h⟩ := h
 refine GA.back hle50 (GA.eff 9 rfl (by kernel_rfl) (GL.callV (fs := []) (vs := [sv [122]]) (cs := []) h trivial rfl QcK rfl rfl ?_))
 rintro _ H55 ⟨r54, rfl, h⟩
 obtain ⟨hle53, h⟩ := h
 refine GA.back hle53 (GA.eff 10 rfl (by kernel_rfl) (GL.buildSlice (cs := (Qb.c r51) ++ (Qb.c r54) ++ []) h trivial rfl (vs := [(0, .agg (Qb.c r51).toArray), (1, .agg (Qb.c r54).toArray)]) rfl ⟨44, fun _ => by kernel_rfl⟩ ?_))
 intro b57 H58 h
 obtain ⟨hle56, h⟩ := h
 refine GA.back hle56 (Zp 11 rfl (OV.build (vs := [(0, slv (Sl.of (some (b57, 0)) 2 2)), (1, .int .i64 5)]) (v := .agg (Qa.c (⟨(Sl.of (some (b57, 0)) 2 2), 5⟩ : Qa)).toArray) rfl (fun _ => by kernel_rfl)) (GA.eff 12 rfl (by kernel_rfl) (GL.buildSlice (cs := (Qa.c (⟨x48, (-2)⟩ : Qa)) ++ (Qa.c (⟨(Sl.of (some (b57, 0)) 2 2), 5⟩ : Qa)) ++ []) h trivial rfl (vs := [(0, .agg (Qa.c (⟨x48, (-2)⟩ : Qa)).toArray), (1, .agg (Qa.c (⟨(Sl.of (some (b57, 0)) 2 2), 5⟩ : Qa)).toArray)]) rfl ⟨47, fun _ => by kernel_rfl⟩ ?_)))
 intro b60 H61 h
 obtain ⟨hle59, h⟩ := h
 refine GA.back hle59 (GA.eff 13 rfl (by kernel_rfl) (Zc h Qcg ?_))
 rintro _ H65 ⟨r63, r64, rfl, h⟩
 obtain ⟨hle62, h⟩ := h
 refine GA.back hle62 (Zp 14 rfl Ym (Zp 15 rfl (OV.extract (v := slv r63) rfl rfl) (Zp 16 rfl (OV.extract (v := .int .i64 r64) rfl rfl) (Zp 17 rfl Ya (Zp 18 rfl Ya (GA.done (by kernel_rfl) (GL.nil (Zo (Zm (Zi (.bool ((r30 : Int) == 0)) (Zm (GL.cut0 4 [(95, .bool (((r30 : Int) == 0) && (((Sl.len r29 : Int) : Int) == 1))), (7, slv r29), (9, slv r32), (10, .int .i64 r33), (11, slv r35), (12, .int .i64 r36), (13, slv r38), (14, .int .i64 r39), (15, slv r63), (16, .int .i64 r64)] ?_ ?_))))))))))))
 rcases Zb ((r30 : Int) == 0) with u66 | u66
 refine Zu u66 Ym (Zu u66 (OV.lenSl rfl rfl) (Zu u66 (OV.ibin (v := .bool (((Sl.len r29 : Int) : Int) == 1)) rfl rfl rfl) (Zt u66 ?_)))
 exact GL.jump0 (fun _ _ h => h) () rfl ⟨(by rw [u66]; rfl), rfl, rfl, rfl, rfl, rfl, rfl, rfl, rfl, rfl, trivial⟩
 refine Zk u66 (Zk u66 (Zk u66 (Zn u66 ?_)))
 exact GL.jump0 (fun _ _ h => h) () rfl ⟨(by rw [u66]; rfl), rfl, rfl, rfl, rfl, rfl, rfl, rfl, rfl, rfl, trivial⟩
 refine Zm ?_
 obtain ⟨J68, h, hR69⟩ := h
 refine GL.cut (α := Bool) 6 J68 (fun b67 => [(102, .bool b67), (7, slv r29), (9, slv r32), (10, .int .i64 r33), (11, slv r35), (12, .int .i64 r36), (13, slv r38), (14, .int .i64 r39), (15, slv r63), (16, .int .i64 r64)]) ?_ ?_
 rcases h.em with ⟨u70, h⟩ | ⟨u70, h⟩
 refine Zu u70 Ym ?_
 obtain ⟨p71, ha72, hb73, u74, hd75, h⟩ := h
 refine Zu u70 (OV.indexAddr rfl rfl rfl rfl ha72 hb73 u74 hd75) (Zu u70 Yf ?_)
 obtain ⟨x76, v77, h⟩ := h
 refine Zu u70 (Yo v77) (Zu u70 (OV.ibin (v := .bool ((x76 : Int) == 6)) rfl rfl rfl) (Zt u70 ?_))
 exact Yj I3 ((x76 : Int) == 6) h
 refine Zk u70 (Zk u70 (Zk u70 (Zk u70 (Zk u70 (Zn u70 ?_)))))
 exact Yj I3 false h
 intro b67 H78 h
 replace h := hR69 b67 H78 h
 refine Zm ?_
 obtain ⟨J80, h, hR81⟩ := h
 refine GL.cut (α := Bool) 7 J80 (fun b79 => [(110, .bool b79), (9, slv r32), (10, .int .i64 r33), (11, slv r35), (12, .int .i64 r36), (13, slv r38), (14, .int .i64 r39), (15, slv r63), (16, .int .i64 r64)]) ?_ ?_
 rcases h.em with ⟨u82, h⟩ | ⟨u82, h⟩
 refine Zu u82 Ym ?_
 obtain ⟨p83, ha84, hb85, u86, hd87, h⟩ := h
 refine Zu u82 (OV.indexAddr rfl rfl rfl rfl ha84 hb85 u86 hd87) (Zu u82 Yf ?_)
 obtain ⟨x88, v89, h⟩ := h
 refine Zu u82 (Yo v89) (Zu u82 (OV.lenSl rfl rfl) (Zu u82 (OV.ibin (v := .bool (((Sl.len x88 : Int) : Int) == 3)) rfl rfl rfl) (Zt u82 ?_)))
 exact Yj I3 (((Sl.len x88 : Int) : Int) == 3) h
 refine Zk u82 (Zk u82 (Zk u82 (Zk u82 (Zk u82 (Zk u82 (Zn u82 ?_))))))
 exact Yj I3 false h
 intro b79 H90 h
 replace h := hR81 b79 H90 h
 refine Zm (GL.cut0 3 [(114, .bool (b79 && ((r33 : Int) == 0))), (9, slv r32), (11, slv r35), (12, .int .i64 r36), (13, slv r38), (14, .int .i64 r39), (15, slv r63), (16, .int .i64 r64)] ?_ ?_)
 rcases Bool.eq_false_or_eq_true b79 with u91 | u91
 refine Zu u91 Ym (Zu u91 (OV.ibin (v := .bool ((r33 : Int) == 0)) rfl rfl rfl) (Zt u91 ?_))
 exact GL.jump0 (fun _ _ h => h) () rfl ⟨(by rw [u91]; rfl), rfl, rfl, rfl, rfl, rfl, rfl, rfl, trivial⟩
 refine Zk u91 (Zk u91 (Zn u91 ?_))
 exact GL.jump0 (fun _ _ h => h) () rfl ⟨(by rw [u91]; rfl), rfl, rfl, rfl, rfl, rfl, rfl, rfl, trivial⟩
 refine Zm (GL.cut0 4 [(119, .bool ((b79 && ((r33 : Int) == 0)) && (((Sl.len r32 : Int) : Int) == 1))), (9, slv r32), (11, slv r35), (12, .int .i64 r36), (13, slv r38), (14, .int .i64 r39), (15, slv r63), (16, .int .i64 r64)] ?_ ?_)
 rcases Zb (b79 && ((r33 : Int) == 0)) with u92 | u92
 refine Zu u92 Ym (Zu u92 (OV.lenSl rfl rfl) (Zu u92 (OV.ibin (v := .bool (((Sl.len r32 : Int) : Int) == 1)) rfl rfl rfl) (Zt u92 ?_)))
 exact GL.jump0 (fun _ _ h => h) () rfl ⟨(by rw [u92]; rfl), rfl, rfl, rfl, rfl, rfl, rfl, rfl, trivial⟩
 refine Zk u92 (Zk u92 (Zk u92 (Zn u92 ?_)))
 exact GL.jump0 (fun _ _ h => h) () rfl ⟨(by rw [u92]; rfl), rfl, rfl, rfl, rfl, rfl, rfl, rfl, trivial⟩
 refine Zm ?_
 obtain ⟨J94, h, hR95⟩ := h
 refine GL.cut (α := Bool) 9 J94 (fun b93 => [(129, .bool b93), (11, slv r35), (12, .int .i64 r36), (13, slv r38), (14, .int .i64 r39), (15, slv r63), (16, .int .i64 r64)]) ?_ ?_
 rcases h.em with ⟨u96, h⟩ | ⟨u96, h⟩
 refine Zu u96 Ym ?_
 obtain ⟨p97, ha98, hb99, u100, hd101, h⟩ := h
 refine Zu u96 (OV.indexAddr rfl rfl rfl rfl ha98 hb99 u100 hd101) (Zu u96 Yf ?_)
 obtain ⟨x102, v103, h⟩ := h
 refine Zu u96 (Yo v103) ?_
 obtain ⟨p104, ha105, hb106, u107, hd108, h⟩ := h
 refine Zu u96 (OV.indexAddr rfl rfl rfl rfl ha105 hb106 u107 hd108) (Zu u96 Yf ?_)
 obtain ⟨x109, v110, h⟩ := h
 refine Zu u96 (Yo v110) (Zu u96 (OV.ibin (v := .bool ((x109 : Int) == 2)) rfl rfl rfl) (Zt u96 ?_))
 exact Yj I3 ((x109 : Int) == 2) h
 refine Zk u96 (Zk u96 (Zk u96 (Zk u96 (Zk u96 (Zk u96 (Zk u96 (Zk u96 (Zn u96 ?_))))))))
 exact Yj I3 false h
 intro b93 H111 h
 replace h := hR95 b93 H111 h
 refine Zm (GL.cut0 3 [(133, .bool (b93 && ((r36 : Int) == 0))), (11, slv r35), (13, slv r38), (14, .int .i64 r39), (15, slv r63), (16, .int .i64 r64)] ?_ ?_)
 rcases Bool.eq_false_or_eq_true b93 with u112 | u112
 refine Zu u112 Ym (Zu u112 (OV.ibin (v := .bool ((r36 : Int) == 0)) rfl rfl rfl) (Zt u112 ?_))
 exact GL.jump0 (fun _ _ h => h) () rfl ⟨(by rw [u112]; rfl), rfl, rfl, rfl, rfl, rfl, trivial⟩
 refine Zk u112 (Zk u112 (Zn u112 ?_))
 exact GL.jump0 (fun _ _ h => h) () rfl ⟨(by rw [u112]; rfl), rfl, rfl, rfl, rfl, rfl, trivial⟩
 refine Zm (GL.cut0 4 [(138, .bool ((b93 && ((r36 : Int) == 0)) && (((Sl.len r35 : Int) : Int) == 1))), (11, slv r35), (13, slv r38), (14, .int .i64 r39), (15, slv r63), (16, .int .i64 r64)] ?_ ?_)
 rcases Zb (b93 && ((r36 : Int) == 0)) with u113 | u113
 refine Zu u113 Ym (Zu u113 (OV.lenSl rfl rfl) (Zu u113 (OV.ibin (v := .bool (((Sl.len r35 : Int) : Int) == 1)) rfl rfl rfl) (Zt u113 ?_)))
 exact GL.jump0 (fun _ _ h => h) () rfl ⟨(by rw [u113]; rfl), rfl, rfl, rfl, rfl, rfl, trivial⟩
 refine Zk u113 (Zk u113 (Zk u113 (Zn u113 ?_)))
 exact GL.jump0 (fun _ _ h => h) () rfl ⟨(by rw [u113]; rfl), rfl, rfl, rfl, rfl, rfl, trivial⟩
 refine Zm ?_
 obtain ⟨J115, h, hR116⟩ := h
 refine GL.cut (α := Bool) 6 J115 (fun b114 => [(145, .bool b114), (11, slv r35), (13, slv r38), (14, .int .i64 r39), (15, slv r63), (16, .int .i64 r64)]) ?_ ?_
 rcases h.em with ⟨u117, h⟩ | ⟨u117, h⟩
 refine Zu u117 Ym ?_
 obtain ⟨p118, ha119, hb120, u121, hd122, h⟩ := h
 refine Zu u117 (OV.indexAddr rfl rfl rfl rfl ha119 hb120 u121 hd122) (Zu u117 Yf ?_)
 obtain ⟨x123, v124, h⟩ := h
 refine Zu u117 (Yo v124) (Zu u117 (OV.ibin (v := .bool ((x123 : Int) == 1)) rfl rfl rfl) (Zt u117 ?_))
 exact Yj I3 ((x123 : Int) == 1) h
 refine Zk u117 (Zk u117 (Zk u117 (Zk u117 (Zk u117 (Zn u117 ?_)))))
 exact Yj I3 false h
 intro b114 H125 h
 replace h := hR116 b114 H125 h
 refine Zm ?_
 obtain ⟨J127, h, hR128⟩ := h
 refine GL.cut (α := Bool) 9 J127 (fun b126 => [(155, .bool b126), (13, slv r38), (14, .int .i64 r39), (15, slv r63), (16, .int .i64 r64)]) ?_ ?_
 rcases h.em with ⟨u129, h⟩ | ⟨u129, h⟩
 refine Zu u129 Ym ?_
 obtain ⟨p130, ha131, hb132, u133, hd134, h⟩ := h
 refine Zu u129 (OV.indexAddr rfl rfl rfl rfl ha131 hb132 u133 hd134) (Zu u129 Yf ?_)
 obtain ⟨x135, v136, h⟩ := h
 refine Zu u129 (Yo v136) ?_
 obtain ⟨p137, ha138, hb139, u140, hd141, h⟩ := h
 refine Zu u129 (OV.indexAddr rfl rfl rfl rfl ha138 hb139 u140 hd141) (Zu u129 Yf ?_)
 obtain ⟨x142, v143, h⟩ := h
 refine Zu u129 (Yo v143) (Zu u129 (OV.ibin (v := .bool ((x142 : Int) == 2)) rfl rfl rfl) (Zt u129 ?_))
 exact Yj I3 ((x142 : Int) == 2) h
 refine Zk u129 (Zk u129 (Zk u129 (Zk u129 (Zk u129 (Zk u129 (Zk u129 (Zk u129 (Zn u129 ?_))))))))
 exact Yj I3 false h
 intro b126 H144 h
 replace h := hR128 b126 H144 h
 refine Zm (GL.cut0 3 [(159, .bool (b126 && ((r39 : Int) == 0))), (13, slv r38), (15, slv r63), (16, .int .i64 r64)] ?_ ?_)
 rcases Bool.eq_false_or_eq_true b126 with u145 | u145
 refine Zu u145 Ym (Zu u145 (OV.ibin (v := .bool ((r39 : Int) == 0)) rfl rfl rfl) (Zt u145 ?_))
 exact GL.jump0 (fun _ _ h => h) () rfl ⟨(by rw [u145]; rfl), rfl, rfl, rfl, trivial⟩
 refine Zk u145 (Zk u145 (Zn u145 ?_))
 exact GL.jump0 (fun _ _ h => h) () rfl ⟨(by rw [u145]; rfl), rfl, rfl, rfl, trivial⟩
 refine Zm (GL.cut0 4 [(164, .bool ((b126 && ((r39 : Int) == 0)) && (((Sl.len r38 : Int) : Int) == 1))), (13, slv r38), (15, slv r63), (16, .int .i64 r64)] ?_ ?_)
 rcases Zb (b126 && ((r39 : Int) == 0)) with u146 | u146
 refine Zu u146 Ym (Zu u146 (OV.lenSl rfl rfl) (Zu u146 (OV.ibin (v := .bool (((Sl.len r38 : Int) : Int) == 1)) rfl rfl rfl) (Zt u146 ?_)))
 exact GL.jump0 (fun _ _ h => h) () rfl ⟨(by rw [u146]; rfl), rfl, rfl, rfl, trivial⟩
 refine Zk u146 (Zk u146 (Zk u146 (Zn u146 ?_)))
 exact GL.jump0 (fun _ _ h => h) () rfl ⟨(by rw [u146]; rfl), rfl, rfl, rfl, trivial⟩
 refine Zm ?_
 obtain ⟨J148, h, hR149⟩ := h
 refine GL.cut (α := Bool) 6 J148 (fun b147 => [(171, .bool b147), (15, slv r63), (16, .int .i64 r64)]) ?_ ?_
 rcases h.em with ⟨u150, h⟩ | ⟨u150, h⟩
 refine Zu u150 Ym ?_
 obtain ⟨p151, ha152, hb153, u154, hd155, h⟩ := h
 refine Zu u150 (OV.indexAddr rfl rfl rfl rfl ha152 hb153 u154 hd155) (Zu u150 Yf ?_)
 obtain ⟨x156, v157, h⟩ := h
 refine Zu u150 (Yo v157) (Zu u150 (OV.ibin (v := .bool ((x156 : Int) == (-1))) rfl rfl rfl) (Zt u150 ?_))
 exact Yj I3 ((x156 : Int) == (-1)) h
 refine Zk u150 (Zk u150 (Zk u150 (Zk u150 (Zk u150 (Zn u150 ?_)))))
 exact Yj I3 false h
 intro b147 H158 h
 replace h := hR149 b147 H158 h
 refine Zm (GL.cut0 3 [(175, .bool (b147 && ((r64 : Int) == 0))), (15, slv r63)] ?_ ?_)
 rcases Bool.eq_false_or_eq_true b147 with u159 | u159
 refine Zu u159 Ym (Zu u159 (OV.ibin (v := .bool ((r64 : Int) == 0)) rfl rfl rfl) (Zt u159 ?_))
 exact GL.jump0 (fun _ _ h => h) () rfl ⟨(by rw [u159]; rfl), rfl, trivial⟩
 refine Zk u159 (Zk u159 (Zn u159 ?_))
 exact GL.jump0 (fun _ _ h => h) () rfl ⟨(by rw [u159]; rfl), rfl, trivial⟩
 refine Zm (GL.cut0 4 [(180, .bool ((b147 && ((r64 : Int) == 0)) && (((Sl.len r63 : Int) : Int) == 2))), (15, slv r63)] ?_ ?_)
 rcases Zb (b147 && ((r64 : Int) == 0)) with u160 | u160
 refine Zu u160 Ym (Zu u160 (OV.lenSl rfl rfl) (Zu u160 (OV.ibin (v := .bool (((Sl.len r63 : Int) : Int) == 2)) rfl rfl rfl) (Zt u160 ?_)))
 exact GL.jump0 (fun _ _ h => h) () rfl ⟨(by rw [u160]; rfl), rfl, trivial⟩
 refine Zk u160 (Zk u160 (Zk u160 (Zn u160 ?_)))
 exact GL.jump0 (fun _ _ h => h) () rfl ⟨(by rw [u160]; rfl), rfl, trivial⟩
 refine Zm ?_
 obtain ⟨J162, h, hR163⟩ := h
 refine GL.cut (α := Bool) 6 J162 (fun b161 => [(187, .bool b161), (15, slv r63)]) ?_ ?_
 rcases h.em with ⟨u164, h⟩ | ⟨u164, h⟩
 refine Zu u164 Ym ?_
 obtain ⟨p165, ha166, hb167, u168, hd169, h⟩ := h
 refine Zu u164 (OV.indexAddr rfl rfl rfl rfl ha166 hb167 u168 hd169) (Zu u164 Yf ?_)
 obtain ⟨x170, v171, h⟩ := h
 refine Zu u164 (Yo v171) (Zu u164 (OV.ibin (v := .bool ((x170 : Int) == (-1))) rfl rfl rfl) (Zt u164 ?_))
 exact Yj I3 ((x170 : Int) == (-1)) h
 refine Zk u164 (Zk u164 (Zk u164 (Zk u164 (Zk u164 (Zn u164 ?_)))))
 exact Yj I3 false h
 intro b161 H172 h
 replace h := hR163 b161 H172 h
 refine Zm ?_
 obtain ⟨J174, h, hR175⟩ := h
 refine GL.cut (α := Bool) 6 J174 (fun b173 => [(194, .bool b173)]) ?_ ?_
 rcases h.em with ⟨u176, h⟩ | ⟨u176, h⟩
 refine Zu u176 Ym ?_
 obtain ⟨p177, ha178, hb179, u180, hd181, h⟩ := h
 refine Zu u176 (OV.indexAddr rfl rfl rfl rfl ha178 hb179 u180 hd181) (Zu u176 Yf ?_)
 obtain ⟨x182, v183, h⟩ := h
 refine Zu u176 (Yo v183) (Zu u176 (OV.ibin (v := .bool ((x182 : Int) == 1)) rfl rfl rfl) (Zt u176 ?_))
 exact Yj I3 ((x182 : Int) == 1) h
 refine Zk u176 (Zk u176 (Zk u176 (Zk u176 (Zk u176 (Zn u176 ?_)))))
 exact Yj I3 false h
 intro b173 H184 h
 replace h := hR175 b173 H184 h
 refine Za (GL.nil ?_)
 exact Y1 I3 ⟨b173, rfl, h⟩
def QfO (C : Ctx) (p_l : Sl) (K : Sl → Heap → Prop) (H : Heap) : Prop :=
 lp (α := Sl × Int) (Sl.nil, 0) H (fun x1 J2 H3 =>
 ift (decide ((x1.2 : Int) < (Sl.len p_l : Int)))
 (dr H3 fun Hs5 =>
 ixa p_l x1.2 fun p7 =>
 ldL Hs5 ((p7.1, p7.2 + (x1.2 : Int).toNat * 2).1, (p7.1, p7.2 + (x1.2 : Int).toNat * 2).2 + 0) fun x12 =>
 ixa p_l x1.2 fun p14 =>
 ldI Hs5 .i64 ((p14.1, p14.2 + (x1.2 : Int).toNat * 2).1, (p14.1, p14.2 + (x1.2 : Int).toNat * 2).2 + 1) fun x19 =>
 QaS C x12 (fun r22 H23 =>
 Heap.le Hs5 H23 ∧
 nw ((Qa.c (⟨r22, x19⟩ : Qa)) ++ []) (fun b25 H26 =>
 Heap.le Hs5 H26 ∧
 apS (Qa.c Qa.zero) 32 x1.1 (Sl.of (some (b25, 0)) 1 1) (fun r28 H29 =>
 Heap.le Hs5 H29 ∧
 J2 (r28, (w .i64 (x1.2 + 1))) H29) H26) H23) H3)
 (K x1.1 H3))
theorem Qi8 (C p_l K H) (h : QfO C p_l K H) : Qbt C p_l K H := by
 refine Ye Tryz.func10 rfl Tryz.ntmps10 [(0, slv p_l)] (Zo (Za (GL.nil (Zo (Za (GL.nil (GC.seq (Zo (Za (GL.nil (GC.block (Yp h (fun x1 => [(3, slv x1.1), (4, .int .i64 x1.2), (0, slv p_l)]) ?_))))))))))))
 intro x1 H3 J2 h
 refine GC.seq (Zo (Zm (Zm (Zq (Zi (.bool (decide ((x1.2 : Int) < (Sl.len p_l : Int)))) (GL.nil (Yd h (fun u4 h => ?_) fun u4 h => ?_)))))))
 refine GC.skip (GC.seq (GC.block ?_))
 obtain ⟨Hs5, hle6, h⟩ := h
 refine GC.any (Hs := Hs5) (by kernel_rfl) hle6 (Zp 0 rfl Ym (Zp 1 rfl Ym (Zp 2 rfl Ym ?_)))
 obtain ⟨p7, ha8, hb9, u10, hd11, h⟩ := h
 refine Zp 3 rfl (OV.indexAddr rfl rfl rfl rfl ha8 hb9 u10 hd11) (Zp 4 rfl Yf ?_)
 obtain ⟨x12, v13, h⟩ := h
 refine Zp 5 rfl (Yo v13) (Zp 7 rfl Ym (Zp 8 rfl Ym ?_))
 obtain ⟨p14, ha15, hb16, u17, hd18, h⟩ := h
 refine Zp 9 rfl (OV.indexAddr rfl rfl rfl rfl ha15 hb16 u17 hd18) (Zp 10 rfl Yf ?_)
 obtain ⟨x19, v20, h⟩ := h
 refine Zp 11 rfl (Yo v20) (GA.eff 6 rfl (by kernel_rfl) (Zc h Qe7 ?_))
 rintro _ H23 ⟨r22, rfl, h⟩
 obtain ⟨hle21, h⟩ := h
 refine GA.back hle21 (Zp 12 rfl (OV.build (vs := [(0, slv r22), (1, .int .i64 x19)]) (v := .agg (Qa.c (⟨r22, x19⟩ : Qa)).toArray) rfl (fun _ => by kernel_rfl)) (GA.eff 13 rfl (by kernel_rfl) (GL.buildSlice (cs := (Qa.c (⟨r22, x19⟩ : Qa)) ++ []) h trivial rfl (vs := [(0, .agg (Qa.c (⟨r22, x19⟩ : Qa)).toArray)]) rfl ⟨47, fun _ => by kernel_rfl⟩ ?_)))
 intro b25 H26 h
 obtain ⟨hle24, h⟩ := h
 refine GA.back hle24 (GA.eff 14 rfl (by kernel_rfl) (GL.appendS (s := x1.1) (s2 := (Sl.of (some (b25, 0)) 1 1)) (zc := Qa.c Qa.zero) (bytes := 32) h trivial rfl rfl rfl ⟨⟨_, _, _, rfl, rfl, rfl, rfl, rfl, rfl⟩⟩ rfl ?_))
 intro r28 H29 h
 obtain ⟨hle27, h⟩ := h
 refine GA.back hle27 (Zp 15 rfl Ya (GA.done (by kernel_rfl) (GL.nil_to (fun _ _ h => h) (GC.region (Zm (Zi (.int .i64 (w .i64 (x1.2 + 1))) (Za ?_)))))))
 exact Yj I3 (r28, (w .i64 (x1.2 + 1))) h
 refine GC.exit_to (fun _ _ h => h) (Zo (Zm (Za (GL.nil ?_))))
 exact Y1 I3 ⟨x1.1, rfl, h⟩
def QfQ (C : Ctx) (p_l : Sl) (K : Sl → Heap → Prop) (H : Heap) : Prop :=
 lp (α := Sl × Int) (Sl.nil, 0) H (fun x1 J2 H3 =>
 ift (decide ((x1.2 : Int) < (Sl.len p_l : Int)))
 (dr H3 fun Hs5 =>
 ixa p_l x1.2 fun p7 =>
 ldI Hs5 .i64 ((p7.1, p7.2 + (x1.2 : Int).toNat * 2).1, (p7.1, p7.2 + (x1.2 : Int).toNat * 2).2 + 0) fun x12 =>
 ixa p_l x1.2 fun p14 =>
 ldI Hs5 .i64 ((p14.1, p14.2 + (x1.2 : Int).toNat * 2).1, (p14.1, p14.2 + (x1.2 : Int).toNat * 2).2 + 1) fun x19 =>
 nw ((Qg.c (⟨x12, x19⟩ : Qg)) ++ []) (fun b22 H23 =>
 Heap.le Hs5 H23 ∧
 apS (Qg.c Qg.zero) 16 x1.1 (Sl.of (some (b22, 0)) 1 1) (fun r25 H26 =>
 Heap.le Hs5 H26 ∧
 J2 (r25, (w .i64 (x1.2 + 1))) H26) H23) H3)
 (K x1.1 H3))
theorem Qja (C p_l K H) (h : QfQ C p_l K H) : Qed C p_l K H := by
 refine Ye Tryz.func11 rfl Tryz.ntmps11 [(0, slv p_l)] (Zo (Za (GL.nil (Zo (Za (GL.nil (GC.seq (Zo (Za (GL.nil (GC.block (Yp h (fun x1 => [(3, slv x1.1), (4, .int .i64 x1.2), (0, slv p_l)]) ?_))))))))))))
 intro x1 H3 J2 h
 refine GC.seq (Zo (Zm (Zm (Zq (Zi (.bool (decide ((x1.2 : Int) < (Sl.len p_l : Int)))) (GL.nil (Yd h (fun u4 h => ?_) fun u4 h => ?_)))))))
 refine GC.skip (GC.seq (GC.block ?_))
 obtain ⟨Hs5, hle6, h⟩ := h
 refine GC.any (Hs := Hs5) (by kernel_rfl) hle6 (Zp 0 rfl Ym (Zp 1 rfl Ym (Zp 2 rfl Ym ?_)))
 obtain ⟨p7, ha8, hb9, u10, hd11, h⟩ := h
 refine Zp 3 rfl (OV.indexAddr rfl rfl rfl rfl ha8 hb9 u10 hd11) (Zp 4 rfl Yf ?_)
 obtain ⟨x12, v13, h⟩ := h
 refine Zp 5 rfl (Yo v13) (Zp 6 rfl Ym (Zp 7 rfl Ym ?_))
 obtain ⟨p14, ha15, hb16, u17, hd18, h⟩ := h
 refine Zp 8 rfl (OV.indexAddr rfl rfl rfl rfl ha15 hb16 u17 hd18) (Zp 9 rfl Yf ?_)
 obtain ⟨x19, v20, h⟩ := h
 refine Zp 10 rfl (Yo v20) (Zp 11 rfl (OV.build (vs := [(0, .int .i64 x12), (1, .int .i64 x19)]) (v := .agg (Qg.c (⟨x12, x19⟩ : Qg)).toArray) rfl (fun _ => by kernel_rfl)) (GA.eff 12 rfl (by kernel_rfl) (GL.buildSlice (cs := (Qg.c (⟨x12, x19⟩ : Qg)) ++ []) h trivial rfl (vs := [(0, .agg (Qg.c (⟨x12, x19⟩ : Qg)).toArray)]) rfl ⟨50, fun _ => by kernel_rfl⟩ ?_)))
 intro b22 H23 h
 obtain ⟨hle21, h⟩ := h
 refine GA.back hle21 (GA.eff 13 rfl (by kernel_rfl) (GL.appendS (s := x1.1) (s2 := (Sl.of (some (b22, 0)) 1 1)) (zc := Qg.c Qg.zero) (bytes := 16) h trivial rfl rfl rfl ⟨⟨_, _, _, rfl, rfl, rfl, rfl, rfl, rfl⟩⟩ rfl ?_))
 intro r25 H26 h
 obtain ⟨hle24, h⟩ := h
 refine GA.back hle24 (Zp 14 rfl Ya (GA.done (by kernel_rfl) (GL.nil_to (fun _ _ h => h) (GC.region (Zm (Zi (.int .i64 (w .i64 (x1.2 + 1))) (Za ?_)))))))
 exact Yj I3 (r25, (w .i64 (x1.2 + 1))) h
 refine GC.exit_to (fun _ _ h => h) (Zo (Zm (Za (GL.nil ?_))))
 exact Y1 I3 ⟨x1.1, rfl, h⟩
def Qdk (C : Ctx) (p_a : Sl) (p_da : Sl) (p_b : Sl) (p_db : Sl) (p_on : Sl) (K : Sl → Int → Heap → Prop) (H : Heap) : Prop :=
 Qb7 C p_a p_da p_b p_db (fun r1 r2 r3 H4 =>
 nw (Qe.c Qe.zero) (fun b5 H6 =>
 nw (Qe.c Qe.zero) (fun b7 H8 =>
 stT (b5, 0) (Qe.c r1) (fun H9 =>
 stT (b7, 0) (Qe.c r2) (fun H10 =>
 ift ((r3 : Int) != 0)
 (K Sl.nil r3 H10)
 (ldL H10 ((b5, 0).1, (b5, 0).2 + 0) fun x12 =>
 ldL H10 ((b7, 0).1, (b7, 0).2 + 0) fun x14 =>
 Qcv C x12 x14 p_on (fun r16 H17 =>
 QI C r16 (fun r18 r19 H20 =>
 ift ((r19 : Int) != 0)
 (K Sl.nil r19 H20)
 (ldL H20 ((b5, 0).1, (b5, 0).2 + 2) fun x22 =>
 ldL H20 ((b7, 0).1, (b7, 0).2 + 2) fun x24 =>
 Qcv C x22 x24 p_on (fun r26 H27 =>
 QI C r26 (fun r28 r29 H30 =>
 ift ((r29 : Int) != 0)
 (K Sl.nil r29 H30)
 (Qej C r28 r18 (fun r32 r33 H34 =>
 K r32 r33 H34) H30)) H27) H20)) H17) H10)) H9) H8) H6) H4) H
theorem Qf9 (C p_a p_da p_b p_db p_on K H) (h : Qdk C p_a p_da p_b p_db p_on K H) : Qbc C p_a p_da p_b p_db p_on K H := by
 refine Ye Tryz.func12 rfl Tryz.ntmps12 [(0, slv p_a), (1, slv p_da), (2, slv p_b), (3, slv p_db), (4, slv p_on)] (Zo (Za (Za (GL.nil (Zo (Zm (Zm (Zm (Zm (Zc h QdS ?_))))))))))
 rintro _ H4 ⟨r1, r2, r3, rfl, h⟩
 refine Zm (Yv (.agg (Qe.c r1).toArray) rfl rfl (Yv (.agg (Qe.c r2).toArray) rfl rfl (Yv (.int .i64 r3) rfl rfl (GL.alloc (cs := Qe.c Qe.zero) h trivial rfl rfl rfl ?_))))
 intro b5 H6 h
 refine GL.alloc (cs := Qe.c Qe.zero) h trivial rfl rfl rfl ?_
 intro b7 H8 h
 refine GL.storeT (p := (b5, 0)) (vs := Qe.c r1) h trivial rfl rfl rfl rfl ?_
 intro H9 h
 refine GL.storeT (p := (b7, 0)) (vs := Qe.c r2) h trivial rfl rfl rfl rfl ?_
 intro H10 h
 refine Za (GL.nil (GC.seq (Zo (Zm (Zi (.bool ((r3 : Int) != 0)) (GL.nil (Yd h (fun u11 h => ?_) fun u11 h => ?_)))))))
 refine Zo (Zm (Za (Za (GL.nil ?_))))
 exact Y2 I3 ⟨Sl.nil, r3, rfl, h⟩
 refine GC.skip (Zo (Zf (Yl h fun x12 h => ?_)))
 refine Zf (Yl h fun x14 h => ?_)
 refine Zm (Zc h Qep ?_)
 rintro _ H17 ⟨r16, rfl, h⟩
 refine Zc h Q0 ?_
 rintro _ H20 ⟨r18, r19, rfl, h⟩
 refine Zm (Yv (slv r18) rfl rfl (Yv (.int .i64 r19) rfl rfl (Za (Za (GL.nil (GC.seq (Zo (Zm (Zi (.bool ((r19 : Int) != 0)) (GL.nil (Yd h (fun u21 h => ?_) fun u21 h => ?_)))))))))))
 refine Zo (Zm (Za (Za (GL.nil ?_))))
 exact Y2 I3 ⟨Sl.nil, r19, rfl, h⟩
 refine GC.skip (Zo (Zf (Yl h fun x22 h => ?_)))
 refine Zf (Yl h fun x24 h => ?_)
 refine Zm (Zc h Qep ?_)
 rintro _ H27 ⟨r26, rfl, h⟩
 refine Zc h Q0 ?_
 rintro _ H30 ⟨r28, r29, rfl, h⟩
 refine Zm (Yv (slv r28) rfl rfl (Yv (.int .i64 r29) rfl rfl (Za (Za (GL.nil (GC.seq (Zo (Zm (Zi (.bool ((r29 : Int) != 0)) (GL.nil (Yd h (fun u31 h => ?_) fun u31 h => ?_)))))))))))
 refine Zo (Zm (Za (Za (GL.nil ?_))))
 exact Y2 I3 ⟨Sl.nil, r29, rfl, h⟩
 refine GC.skip (Zo (Zm (Zm (Zc h Qln ?_))))
 rintro _ H34 ⟨r32, r33, rfl, h⟩
 refine Yv (slv r32) rfl rfl (Yv (.int .i64 r33) rfl rfl (Za (Za (GL.nil ?_))))
 exact Y2 I3 ⟨r32, r33, rfl, h⟩
def Qdo (C : Ctx) (p_a : Sl) (p_da : Sl) (p_b : Sl) (p_db : Sl) (p_on : Sl) (K : Sl → Int → Heap → Prop) (H : Heap) : Prop :=
 Qcf C p_a p_da p_b p_db (fun r1 r2 r3 H4 =>
 ift ((r3 : Int) != 0)
 (K Sl.nil r3 H4)
 (Qdx C p_a p_b p_on (fun r6 r7 H8 =>
 ift ((r7 : Int) != 0)
 (K Sl.nil r7 H8)
 (Qdx C r1 r2 p_on (fun r10 r11 H12 =>
 ift ((r11 : Int) != 0)
 (K Sl.nil r11 H12)
 (QbU C r10 r6 (fun r14 r15 H16 =>
 K r14 r15 H16) H12)) H8)) H4)) H
theorem Qgd (C p_a p_da p_b p_db p_on K H) (h : Qdo C p_a p_da p_b p_db p_on K H) : Qce C p_a p_da p_b p_db p_on K H := by
 refine Ye Tryz.func13 rfl Tryz.ntmps13 [(0, slv p_a), (1, slv p_da), (2, slv p_b), (3, slv p_db), (4, slv p_on)] (Zo (Za (Za (GL.nil (Zo (Zm (Zm (Zm (Zm (Zc h QdU ?_))))))))))
 rintro _ H4 ⟨r1, r2, r3, rfl, h⟩
 refine Zm (Yv (slv r1) rfl rfl (Yv (slv r2) rfl rfl (Yv (.int .i64 r3) rfl rfl (Za (Za (Za (GL.nil (GC.seq (Zo (Zm (Zi (.bool ((r3 : Int) != 0)) (GL.nil (Yd h (fun u5 h => ?_) fun u5 h => ?_)))))))))))))
 refine Zo (Zm (Za (Za (GL.nil ?_))))
 exact Y2 I3 ⟨Sl.nil, r3, rfl, h⟩
 refine GC.skip (Zo (Zm (Zm (Zm (Zc h QgP ?_)))))
 rintro _ H8 ⟨r6, r7, rfl, h⟩
 refine Zm (Yv (slv r6) rfl rfl (Yv (.int .i64 r7) rfl rfl (Za (Za (GL.nil (GC.seq (Zo (Zm (Zi (.bool ((r7 : Int) != 0)) (GL.nil (Yd h (fun u9 h => ?_) fun u9 h => ?_)))))))))))
 refine Zo (Zm (Za (Za (GL.nil ?_))))
 exact Y2 I3 ⟨Sl.nil, r7, rfl, h⟩
 refine GC.skip (Zo (Zm (Zm (Zm (Zc h QgP ?_)))))
 rintro _ H12 ⟨r10, r11, rfl, h⟩
 refine Zm (Yv (slv r10) rfl rfl (Yv (.int .i64 r11) rfl rfl (Za (Za (GL.nil (GC.seq (Zo (Zm (Zi (.bool ((r11 : Int) != 0)) (GL.nil (Yd h (fun u13 h => ?_) fun u13 h => ?_)))))))))))
 refine Zo (Zm (Za (Za (GL.nil ?_))))
 exact Y2 I3 ⟨Sl.nil, r11, rfl, h⟩
 refine GC.skip (Zo (Zm (Zm (Zc h Qet ?_))))
 rintro _ H16 ⟨r14, r15, rfl, h⟩
 refine Yv (slv r14) rfl rfl (Yv (.int .i64 r15) rfl rfl (Za (Za (GL.nil ?_))))
 exact Y2 I3 ⟨r14, r15, rfl, h⟩
def Qg5 (C : Ctx) (p_got : Sl) (p_e : Int) (p_want : Sl) (p_f : Int) (K : Bool → Heap → Prop) (H : Heap) : Prop :=
 jn (α := Bool) (fun b1 H9 =>
 ift b1
 (K false H9)
 (lp (α := Int) 0 H9 (fun x11 J12 H13 =>
 ift (decide ((x11 : Int) < (Sl.len p_got : Int)))
 (ixa p_got x11 fun p15 =>
 ldL H13 ((p15.1, p15.2 + (x11 : Int).toNat * 2).1, (p15.1, p15.2 + (x11 : Int).toNat * 2).2 + 0) fun x20 =>
 Qca C x20 (fun H22 =>
 J12 (w .i64 (x11 + 1)) H22) H13)
 (K true H13))))
 (fun J2 => ift ((p_e : Int) != p_f)
 (J2 true H)
 (Qbk C p_got (fun r5 H6 =>
 Qae C r5 p_want (fun r7 H8 =>
 J2 (!r7) H8) H6) H))
theorem Qj4 (C p_got p_e p_want p_f K H) (h : Qg5 C p_got p_e p_want p_f K H) : Qcw C p_got p_e p_want p_f K H := by
 refine Ye Tryz.func14 rfl Tryz.ntmps14 [(0, slv p_got), (1, .int .i64 p_e), (2, slv p_want), (3, .int .i64 p_f)] (Zo (Za (GL.nil (GC.seq (Zo (Zm (Zm (Zi (.bool ((p_e : Int) != p_f)) (Zm ?_)))))))))
 obtain ⟨J2, h, hR3⟩ := h
 refine GL.cut (α := Bool) 6 J2 (fun b1 => [(19, .bool b1), (0, slv p_got)]) ?_ ?_
 rcases h.em with ⟨u4, h⟩ | ⟨u4, h⟩
 refine Zk u4 (Zk u4 (Zk u4 (Zk u4 (Zk u4 (Zt u4 ?_)))))
 exact Yj I3 true h
 refine Zu u4 Ym (GL.call h (Yt u4) rfl Qch (vs := [slv p_got]) rfl ?_)
 rintro _ H6 ⟨r5, rfl, h⟩
 refine Zu u4 Ym (GL.call h (Yt u4) rfl Qci (vs := [slv r5, slv p_want]) rfl ?_)
 rintro _ H8 ⟨r7, rfl, h⟩
 refine Zu u4 (OV.not rfl) (Zn u4 ?_)
 exact Yj I3 (!r7) h
 intro b1 H9 h
 replace h := hR3 b1 H9 h
 refine GL.nil (Yd h (fun u10 h => ?_) fun u10 h => ?_)
 refine Zo (Za (GL.nil ?_))
 exact Y1 I3 ⟨false, rfl, h⟩
 refine GC.skip (GC.seq (Zo (Za (GL.nil (GC.block (Yp h (fun x11 => [(9, .int .i64 x11), (0, slv p_got)]) ?_))))))
 intro x11 H13 J12 h
 refine GC.seq (Zo (Zm (Zm (Zq (Zi (.bool (decide ((x11 : Int) < (Sl.len p_got : Int)))) (GL.nil (Yd h (fun u14 h => ?_) fun u14 h => ?_)))))))
 refine GC.skip (GC.seq (GC.block (GC.region (Zm (Zm (Yx h fun p15 h => ?_))))))
 refine Zf (Yl h fun x20 h => ?_)
 refine Zc h QfH ?_
 rintro _ H22 ⟨rfl, h⟩
 refine GL.nil_to (fun _ _ h => h) (GC.region (Zm (Zi (.int .i64 (w .i64 (x11 + 1))) (Za ?_))))
 exact Yj I3 (w .i64 (x11 + 1)) h
 refine GC.exit_to (fun _ _ h => h) (Zo (Za (GL.nil ?_)))
 exact Y1 I3 ⟨true, rfl, h⟩
def Qdj (C : Ctx) (p_a : Sl) (p_da : Sl) (p_b : Sl) (p_db : Sl) (p_on : Sl) (K : Sl → Int → Heap → Prop) (H : Heap) : Prop :=
 Qb7 C p_a p_da p_b p_db (fun r1 r2 r3 H4 =>
 nw (Qe.c Qe.zero) (fun b5 H6 =>
 nw (Qe.c Qe.zero) (fun b7 H8 =>
 stT (b5, 0) (Qe.c r1) (fun H9 =>
 stT (b7, 0) (Qe.c r2) (fun H10 =>
 ift ((r3 : Int) != 0)
 (K Sl.nil r3 H10)
 (ldL H10 ((b7, 0).1, (b7, 0).2 + 0) fun x12 =>
 QaL C x12 (fun r14 r15 H16 =>
 ift ((r15 : Int) != 0)
 (K Sl.nil r15 H16)
 (ldL H16 ((b7, 0).1, (b7, 0).2 + 2) fun x18 =>
 QaL C x18 (fun r20 r21 H22 =>
 ift ((r21 : Int) != 0)
 (K Sl.nil r21 H22)
 (dr H22 fun Hs24 =>
 ldL Hs24 ((b5, 0).1, (b5, 0).2 + 2) fun x26 =>
 ldL Hs24 ((b5, 0).1, (b5, 0).2 + 0) fun x28 =>
 QbS C x26 r20 p_on (fun r31 H32 =>
 Heap.le Hs24 H32 ∧
 QbS C x28 r14 p_on (fun r34 H35 =>
 Heap.le Hs24 H35 ∧
 QeY C r34 (fun r37 H38 =>
 Heap.le Hs24 H38 ∧
 apS (Qa.c Qa.zero) 32 r31 r37 (fun r40 H41 =>
 Heap.le Hs24 H41 ∧
 QI C r40 (fun r43 r44 H45 =>
 Heap.le Hs24 H45 ∧
 K r43 r44 H45) H41) H38) H35) H32) H22)) H16)) H10)) H9) H8) H6) H4) H
theorem Qf8 (C p_a p_da p_b p_db p_on K H) (h : Qdj C p_a p_da p_b p_db p_on K H) : Qbb C p_a p_da p_b p_db p_on K H := by
 refine Ye Tryz.func15 rfl Tryz.ntmps15 [(0, slv p_a), (1, slv p_da), (2, slv p_b), (3, slv p_db), (4, slv p_on)] (Zo (Za (Za (GL.nil (Zo (Zm (Zm (Zm (Zm (Zc h QdS ?_))))))))))
 rintro _ H4 ⟨r1, r2, r3, rfl, h⟩
 refine Zm (Yv (.agg (Qe.c r1).toArray) rfl rfl (Yv (.agg (Qe.c r2).toArray) rfl rfl (Yv (.int .i64 r3) rfl rfl (GL.alloc (cs := Qe.c Qe.zero) h trivial rfl rfl rfl ?_))))
 intro b5 H6 h
 refine GL.alloc (cs := Qe.c Qe.zero) h trivial rfl rfl rfl ?_
 intro b7 H8 h
 refine GL.storeT (p := (b5, 0)) (vs := Qe.c r1) h trivial rfl rfl rfl rfl ?_
 intro H9 h
 refine GL.storeT (p := (b7, 0)) (vs := Qe.c r2) h trivial rfl rfl rfl rfl ?_
 intro H10 h
 refine Za (GL.nil (GC.seq (Zo (Zm (Zi (.bool ((r3 : Int) != 0)) (GL.nil (Yd h (fun u11 h => ?_) fun u11 h => ?_)))))))
 refine Zo (Zm (Za (Za (GL.nil ?_))))
 exact Y2 I3 ⟨Sl.nil, r3, rfl, h⟩
 refine GC.skip (Zo (Zf (Yl h fun x12 h => ?_)))
 refine Zc h QcL ?_
 rintro _ H16 ⟨r14, r15, rfl, h⟩
 refine Zm (Yv (slv r14) rfl rfl (Yv (.int .i64 r15) rfl rfl (Za (Za (GL.nil (GC.seq (Zo (Zm (Zi (.bool ((r15 : Int) != 0)) (GL.nil (Yd h (fun u17 h => ?_) fun u17 h => ?_)))))))))))
 refine Zo (Zm (Za (Za (GL.nil ?_))))
 exact Y2 I3 ⟨Sl.nil, r15, rfl, h⟩
 refine GC.skip (Zo (Zf (Yl h fun x18 h => ?_)))
 refine Zc h QcL ?_
 rintro _ H22 ⟨r20, r21, rfl, h⟩
 refine Zm (Yv (slv r20) rfl rfl (Yv (.int .i64 r21) rfl rfl (Za (Za (GL.nil (GC.seq (Zo (Zm (Zi (.bool ((r21 : Int) != 0)) (GL.nil (Yd h (fun u23 h => ?_) fun u23 h => ?_)))))))))))
 refine Zo (Zm (Za (Za (GL.nil ?_))))
 exact Y2 I3 ⟨Sl.nil, r21, rfl, h⟩
 refine GC.skip (GC.seq ?_)
 obtain ⟨Hs24, hle25, h⟩ := h
 refine GC.any (Hs := Hs24) (by kernel_rfl) hle25 (Zp 0 rfl Yf ?_)
 obtain ⟨x26, v27, h⟩ := h
 refine Zp 1 rfl (Yo v27) (Zp 2 rfl Ym (Zp 3 rfl Ym (Zp 5 rfl Yf ?_)))
 obtain ⟨x28, v29, h⟩ := h
 refine Zp 6 rfl (Yo v29) (Zp 7 rfl Ym (Zp 8 rfl Ym (GA.eff 4 rfl (by kernel_rfl) (Zc h Qeo ?_))))
 rintro _ H32 ⟨r31, rfl, h⟩
 obtain ⟨hle30, h⟩ := h
 refine GA.back hle30 (GA.eff 9 rfl (by kernel_rfl) (Zc h Qeo ?_))
 rintro _ H35 ⟨r34, rfl, h⟩
 obtain ⟨hle33, h⟩ := h
 refine GA.back hle33 (GA.eff 10 rfl (by kernel_rfl) (Zc h QkF ?_))
 rintro _ H38 ⟨r37, rfl, h⟩
 obtain ⟨hle36, h⟩ := h
 refine GA.back hle36 (GA.eff 11 rfl (by kernel_rfl) (GL.appendS (s := r31) (s2 := r37) (zc := Qa.c Qa.zero) (bytes := 32) h trivial rfl rfl rfl ⟨⟨_, _, _, rfl, rfl, rfl, rfl, rfl, rfl⟩⟩ rfl ?_))
 intro r40 H41 h
 obtain ⟨hle39, h⟩ := h
 refine GA.back hle39 (GA.eff 12 rfl (by kernel_rfl) (Zc h Q0 ?_))
 rintro _ H45 ⟨r43, r44, rfl, h⟩
 obtain ⟨hle42, h⟩ := h
 refine GA.back hle42 (Zp 13 rfl (OV.extract (v := slv r43) rfl rfl) (Zp 14 rfl (OV.extract (v := .int .i64 r44) rfl rfl) (Zp 15 rfl Ya (Zp 16 rfl Ya (GA.done (by kernel_rfl) (GL.nil ?_))))))
 exact Y2 I3 ⟨r43, r44, rfl, h⟩
def Qdn (C : Ctx) (p_a : Sl) (p_da : Sl) (p_b : Sl) (p_db : Sl) (p_on : Sl) (K : Sl → Int → Heap → Prop) (H : Heap) : Prop :=
 Qcf C p_a p_da p_b p_db (fun r1 r2 r3 H4 =>
 ift ((r3 : Int) != 0)
 (K Sl.nil r3 H4)
 (Qdw C p_a p_b p_on (fun r6 r7 H8 =>
 ift ((r7 : Int) != 0)
 (K Sl.nil r7 H8)
 (Qdw C r1 r2 p_on (fun r10 r11 H12 =>
 ift ((r11 : Int) != 0)
 (K Sl.nil r11 H12)
 (QbU C r10 r6 (fun r14 r15 H16 =>
 K r14 r15 H16) H12)) H8)) H4)) H
theorem Qgc (C p_a p_da p_b p_db p_on K H) (h : Qdn C p_a p_da p_b p_db p_on K H) : Qcd C p_a p_da p_b p_db p_on K H := by
 refine Ye Tryz.func16 rfl Tryz.ntmps16 [(0, slv p_a), (1, slv p_da), (2, slv p_b), (3, slv p_db), (4, slv p_on)] (Zo (Za (Za (GL.nil (Zo (Zm (Zm (Zm (Zm (Zc h QdU ?_))))))))))
 rintro _ H4 ⟨r1, r2, r3, rfl, h⟩
 refine Zm (Yv (slv r1) rfl rfl (Yv (slv r2) rfl rfl (Yv (.int .i64 r3) rfl rfl (Za (Za (Za (GL.nil (GC.seq (Zo (Zm (Zi (.bool ((r3 : Int) != 0)) (GL.nil (Yd h (fun u5 h => ?_) fun u5 h => ?_)))))))))))))
 refine Zo (Zm (Za (Za (GL.nil ?_))))
 exact Y2 I3 ⟨Sl.nil, r3, rfl, h⟩
 refine GC.skip (Zo (Zm (Zm (Zm (Zc h QgO ?_)))))
 rintro _ H8 ⟨r6, r7, rfl, h⟩
 refine Zm (Yv (slv r6) rfl rfl (Yv (.int .i64 r7) rfl rfl (Za (Za (GL.nil (GC.seq (Zo (Zm (Zi (.bool ((r7 : Int) != 0)) (GL.nil (Yd h (fun u9 h => ?_) fun u9 h => ?_)))))))))))
 refine Zo (Zm (Za (Za (GL.nil ?_))))
 exact Y2 I3 ⟨Sl.nil, r7, rfl, h⟩
 refine GC.skip (Zo (Zm (Zm (Zm (Zc h QgO ?_)))))
 rintro _ H12 ⟨r10, r11, rfl, h⟩
 refine Zm (Yv (slv r10) rfl rfl (Yv (.int .i64 r11) rfl rfl (Za (Za (GL.nil (GC.seq (Zo (Zm (Zi (.bool ((r11 : Int) != 0)) (GL.nil (Yd h (fun u13 h => ?_) fun u13 h => ?_)))))))))))
 refine Zo (Zm (Za (Za (GL.nil ?_))))
 exact Y2 I3 ⟨Sl.nil, r11, rfl, h⟩
 refine GC.skip (Zo (Zm (Zm (Zc h Qet ?_))))
 rintro _ H16 ⟨r14, r15, rfl, h⟩
 refine Yv (slv r14) rfl rfl (Yv (.int .i64 r15) rfl rfl (Za (Za (GL.nil ?_))))
 exact Y2 I3 ⟨r14, r15, rfl, h⟩
end
end Sx
end
