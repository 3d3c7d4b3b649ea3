/-
  Texts of this family, one behind the other: Sh1, Sh2.
-/
import Derived.Test.YtnomkabppjlbfaaGreatDoorAU1
import Derived.Test.YtnomkabppjlbfaaGreatDoorProg
noncomputable section
set_option linter.unusedVariables false
set_option linter.unusedSimpArgs false
set_option maxRecDepth 10000
namespace Sx
section
set_option maxRecDepth 100000
open Go Go.Proofs
structure Qg where
 Name:Str
 Imports:Sl
 Types:Sl
 Rels:Sl
 Rules:Sl
 Nevers:Sl
def Qg.c (x:Qg):List Value:=[sv x.Name,slv x.Imports,slv x.Types,slv x.Rels,slv x.Rules,slv x.Nevers]
def Qg.zero:Qg:=⟨[],Sl.nil,Sl.nil,Sl.nil,Sl.nil,Sl.nil⟩
structure Qp where
 Line:Int
 Col:Int
def Qp.c (x:Qp):List Value:=[.int .i64 x.Line,.int .i64 x.Col]
def Qp.zero:Qp:=⟨0,0⟩
structure Qb where
 Kind:Int
 N:Int
 S:Str
 L:Sl
def Qb.c (x:Qb):List Value:=[.int .u8 x.Kind,.int .i64 x.N,sv x.S,slv x.L]
def Qb.zero:Qb:=⟨0,0,[],Sl.nil⟩
structure Qa where
 Kind:Int
 Pos:Qp
 Name:Str
 Value_:Qb
 Args:Sl
def Qa.c (x:Qa):List Value:=[.int .u8 x.Kind,.int .i64 x.Pos.Line,.int .i64 x.Pos.Col,sv x.Name,.int .u8 x.Value_.Kind,.int .i64 x.Value_.N,sv x.Value_.S,slv x.Value_.L,slv x.Args]
def Qa.zero:Qa:=⟨0,Qp.zero,[],Qb.zero,Sl.nil⟩
structure Qn where
 Pos:Qp
 Name:Str
def Qn.c (x:Qn):List Value:=[.int .i64 x.Pos.Line,.int .i64 x.Pos.Col,sv x.Name]
def Qn.zero:Qn:=⟨Qp.zero,[]⟩
structure Qf where
 Pos:Qp
 Pub:Bool
 Name:Str
 Params:Sl
 Cons:Sl
def Qf.c (x:Qf):List Value:=[.int .i64 x.Pos.Line,.int .i64 x.Pos.Col,.bool x.Pub,sv x.Name,slv x.Params,slv x.Cons]
def Qf.zero:Qf:=⟨Qp.zero,false,[],Sl.nil,Sl.nil⟩
structure Qi where
 Pos:Qp
 Pub:Bool
 Input:Bool
 Name:Str
 Fields:Sl
def Qi.c (x:Qi):List Value:=[.int .i64 x.Pos.Line,.int .i64 x.Pos.Col,.bool x.Pub,.bool x.Input,sv x.Name,slv x.Fields]
def Qi.zero:Qi:=⟨Qp.zero,false,false,[],Sl.nil⟩
structure Qk where
 Pos:Qp
 Rel:Str
 Args:Sl
 Aggs:Sl
 Body:Sl
def Qk.c (x:Qk):List Value:=[.int .i64 x.Pos.Line,.int .i64 x.Pos.Col,sv x.Rel,slv x.Args,slv x.Aggs,slv x.Body]
def Qk.zero:Qk:=⟨Qp.zero,[],Sl.nil,Sl.nil,Sl.nil⟩
structure Ql where
 Pos:Qp
 Name:Str
 Body:Sl
def Ql.c (x:Ql):List Value:=[.int .i64 x.Pos.Line,.int .i64 x.Pos.Col,sv x.Name,slv x.Body]
def Ql.zero:Ql:=⟨Qp.zero,[],Sl.nil⟩
structure Qc where
 Kind:Int
 Pos:Qp
 Rel:Str
 Args:Sl
def Qc.c (x:Qc):List Value:=[.int .u8 x.Kind,.int .i64 x.Pos.Line,.int .i64 x.Pos.Col,sv x.Rel,slv x.Args]
def Qc.zero:Qc:=⟨0,Qp.zero,[],Sl.nil⟩
structure Qh where
 Name:Str
 Fields:Sl
def Qh.c (x:Qh):List Value:=[sv x.Name,slv x.Fields]
def Qh.zero:Qh:=⟨[],Sl.nil⟩
structure Qe where
 Name:Str
 Args:Sl
def Qe.c (x:Qe):List Value:=[sv x.Name,slv x.Args]
def Qe.zero:Qe:=⟨[],Sl.nil⟩
structure Qd where
 Name:Str
 Type_:Qe
def Qd.c (x:Qd):List Value:=[sv x.Name,sv x.Type_.Name,slv x.Type_.Args]
def Qd.zero:Qd:=⟨[],Qe.zero⟩
structure QaK where
 addr_:Option (Nat×Nat)
 buf_:Sl
def QaK.c (x:QaK):List Value:=[pv x.addr_,slv x.buf_]
def QaK.zero:QaK:=⟨none,Sl.nil⟩
structure Qcg where
 Builder:QaK
def Qcg.c (x:Qcg):List Value:=[pv x.Builder.addr_,slv x.Builder.buf_]
def Qcg.zero:Qcg:=⟨QaK.zero⟩
structure Qbh where
 lo_:Int
 hi_:Int
def Qbh.c (x:Qbh):List Value:=[.int .u8 x.lo_,.int .u8 x.hi_]
def Qbh.zero:Qbh:=⟨0,0⟩
theorem Qpp:CallOk Tryz.prog 8:=⟨⟨_,Tryz.func8,rfl,by decide +kernel⟩⟩
theorem QkX:CallOk Tryz.prog 9:=⟨⟨_,Tryz.func9,rfl,by decide +kernel⟩⟩
theorem Qmp:CallOk Tryz.prog 10:=⟨⟨_,Tryz.func10,rfl,by decide +kernel⟩⟩
theorem Qps:CallOk Tryz.prog 11:=⟨⟨_,Tryz.func11,rfl,by decide +kernel⟩⟩
theorem Qmo:CallOk Tryz.prog 12:=⟨⟨_,Tryz.func12,rfl,by decide +kernel⟩⟩
theorem Qk2:CallOk Tryz.prog 13:=⟨⟨_,Tryz.func13,rfl,by decide +kernel⟩⟩
theorem Qrl:CallOk Tryz.prog 14:=⟨⟨_,Tryz.func14,rfl,by decide +kernel⟩⟩
theorem QhJ:CallOk Tryz.prog 19:=⟨⟨_,Tryz.func19,rfl,by decide +kernel⟩⟩
theorem Qj5:CallOk Tryz.prog 21:=⟨⟨_,Tryz.func21,rfl,by decide +kernel⟩⟩
theorem Qmh:CallOk Tryz.prog 22:=⟨⟨_,Tryz.func22,rfl,by decide +kernel⟩⟩
theorem QaA:CallOk Tryz.prog 23:=⟨⟨_,Tryz.func23,rfl,by decide +kernel⟩⟩
theorem Qrm:CallOk Tryz.prog 24:=⟨⟨_,Tryz.func24,rfl,by decide +kernel⟩⟩
theorem QV:CallOk Tryz.prog 25:=⟨⟨_,Tryz.func25,rfl,by decide +kernel⟩⟩
theorem Qi8:CallOk Tryz.prog 26:=⟨⟨_,Tryz.func26,rfl,by decide +kernel⟩⟩
theorem QoB:CallOk Tryz.prog 27:=⟨⟨_,Tryz.func27,rfl,by decide +kernel⟩⟩
theorem Qip:CallOk Tryz.prog 28:=⟨⟨_,Tryz.func28,rfl,by decide +kernel⟩⟩
theorem QjI:CallOk Tryz.prog 29:=⟨⟨_,Tryz.func29,rfl,by decide +kernel⟩⟩
theorem Qi9:CallOk Tryz.prog 30:=⟨⟨_,Tryz.func30,rfl,by decide +kernel⟩⟩
theorem Qke:CallOk Tryz.prog 31:=⟨⟨_,Tryz.func31,rfl,by decide +kernel⟩⟩
theorem Qkc:CallOk Tryz.prog 32:=⟨⟨_,Tryz.func32,rfl,by decide +kernel⟩⟩
theorem QlZ:CallOk Tryz.prog 33:=⟨⟨_,Tryz.func33,rfl,by decide +kernel⟩⟩
theorem QjG:CallOk Tryz.prog 34:=⟨⟨_,Tryz.func34,rfl,by decide +kernel⟩⟩
theorem QoC:CallOk Tryz.prog 35:=⟨⟨_,Tryz.func35,rfl,by decide +kernel⟩⟩
theorem Qe4:CallOk Tryz.prog 36:=⟨⟨_,Tryz.func36,rfl,by decide +kernel⟩⟩
theorem QjH:CallOk Tryz.prog 37:=⟨⟨_,Tryz.func37,rfl,by decide +kernel⟩⟩
theorem Qm:CallOk Tryz.prog 38:=⟨⟨_,Tryz.func38,rfl,by decide +kernel⟩⟩
theorem QeO:CallOk Tryz.prog 39:=⟨⟨_,Tryz.func39,rfl,by decide +kernel⟩⟩
theorem Qnc:CallOk Tryz.prog 40:=⟨⟨_,Tryz.func40,rfl,by decide +kernel⟩⟩
theorem Qnm:CallOk Tryz.prog 41:=⟨⟨_,Tryz.func41,rfl,by decide +kernel⟩⟩
theorem QgQ:CallOk Tryz.prog 42:=⟨⟨_,Tryz.func42,rfl,by decide +kernel⟩⟩
theorem Qnb:CallOk Tryz.prog 43:=⟨⟨_,Tryz.func43,rfl,by decide +kernel⟩⟩
theorem Qid:CallOk Tryz.prog 44:=⟨⟨_,Tryz.func44,rfl,by decide +kernel⟩⟩
theorem Qrn:CallOk Tryz.prog 45:=⟨⟨_,Tryz.func45,rfl,by decide +kernel⟩⟩
theorem QbC:CallOk Tryz.prog 46:=⟨⟨_,Tryz.func46,rfl,by decide +kernel⟩⟩
theorem QjC:CallOk Tryz.prog 47:=⟨⟨_,Tryz.func47,rfl,by decide +kernel⟩⟩
theorem Qow:CallOk Tryz.prog 48:=⟨⟨_,Tryz.func48,rfl,by decide +kernel⟩⟩
theorem Qi6:CallOk Tryz.prog 49:=⟨⟨_,Tryz.func49,rfl,by decide +kernel⟩⟩
theorem QoF:CallOk Tryz.prog 50:=⟨⟨_,Tryz.func50,rfl,by decide +kernel⟩⟩
theorem QjD:CallOk Tryz.prog 51:=⟨⟨_,Tryz.func51,rfl,by decide +kernel⟩⟩
theorem Qox:CallOk Tryz.prog 52:=⟨⟨_,Tryz.func52,rfl,by decide +kernel⟩⟩
theorem Qk6:CallOk Tryz.prog 53:=⟨⟨_,Tryz.func53,rfl,by decide +kernel⟩⟩
theorem Qgj:CallOk Tryz.prog 54:=⟨⟨_,Tryz.func54,rfl,by decide +kernel⟩⟩
theorem Qro:CallOk Tryz.prog 55:=⟨⟨_,Tryz.func55,rfl,by decide +kernel⟩⟩
theorem Qf0:CallOk Tryz.prog 56:=⟨⟨_,Tryz.func56,rfl,by decide +kernel⟩⟩
theorem Qoy:CallOk Tryz.prog 57:=⟨⟨_,Tryz.func57,rfl,by decide +kernel⟩⟩
theorem Qfu:CallOk Tryz.prog 58:=⟨⟨_,Tryz.func58,rfl,by decide +kernel⟩⟩
theorem QoD:CallOk Tryz.prog 59:=⟨⟨_,Tryz.func59,rfl,by decide +kernel⟩⟩
theorem Qoz:CallOk Tryz.prog 60:=⟨⟨_,Tryz.func60,rfl,by decide +kernel⟩⟩
theorem QoA:CallOk Tryz.prog 61:=⟨⟨_,Tryz.func61,rfl,by decide +kernel⟩⟩
theorem QqA:CallOk Tryz.prog 62:=⟨⟨_,Tryz.func62,rfl,by decide +kernel⟩⟩
theorem QaB:CallOk Tryz.prog 63:=⟨⟨_,Tryz.func63,rfl,by decide +kernel⟩⟩
theorem Qpu:CallOk Tryz.prog 64:=⟨⟨_,Tryz.func64,rfl,by decide +kernel⟩⟩
theorem Qpt:CallOk Tryz.prog 65:=⟨⟨_,Tryz.func65,rfl,by decide +kernel⟩⟩
theorem Qj7:CallOk Tryz.prog 66:=⟨⟨_,Tryz.func66,rfl,by decide +kernel⟩⟩
theorem Qmm:CallOk Tryz.prog 67:=⟨⟨_,Tryz.func67,rfl,by decide +kernel⟩⟩
theorem Qa3:CallOk Tryz.prog 68:=⟨⟨_,Tryz.func68,rfl,by decide +kernel⟩⟩
theorem Qpv:CallOk Tryz.prog 69:=⟨⟨_,Tryz.func69,rfl,by decide +kernel⟩⟩
theorem QaJ:CallOk Tryz.prog 70:=⟨⟨_,Tryz.func70,rfl,by decide +kernel⟩⟩
theorem Qpw:CallOk Tryz.prog 71:=⟨⟨_,Tryz.func71,rfl,by decide +kernel⟩⟩
theorem Qdo:CallOk Tryz.prog 72:=⟨⟨_,Tryz.func72,rfl,by decide +kernel⟩⟩
theorem QaI:CallOk Tryz.prog 73:=⟨⟨_,Tryz.func73,rfl,by decide +kernel⟩⟩
theorem QnO:CallOk Tryz.prog 74:=⟨⟨_,Tryz.func74,rfl,by decide +kernel⟩⟩
theorem QL:CallOk Tryz.prog 75:=⟨⟨_,Tryz.func75,rfl,by decide +kernel⟩⟩
theorem Qnd:CallOk Tryz.prog 76:=⟨⟨_,Tryz.func76,rfl,by decide +kernel⟩⟩
theorem Qa4:CallOk Tryz.prog 77:=⟨⟨_,Tryz.func77,rfl,by decide +kernel⟩⟩
theorem Qpx:CallOk Tryz.prog 78:=⟨⟨_,Tryz.func78,rfl,by decide +kernel⟩⟩
theorem QbP:CallOk Tryz.prog 79:=⟨⟨_,Tryz.func79,rfl,by decide +kernel⟩⟩
theorem Qpy:CallOk Tryz.prog 80:=⟨⟨_,Tryz.func80,rfl,by decide +kernel⟩⟩
theorem QK:CallOk Tryz.prog 81:=⟨⟨_,Tryz.func81,rfl,by decide +kernel⟩⟩
theorem Qgh:CallOk Tryz.prog 82:=⟨⟨_,Tryz.func82,rfl,by decide +kernel⟩⟩
theorem QP:CallOk Tryz.prog 83:=⟨⟨_,Tryz.func83,rfl,by decide +kernel⟩⟩
theorem QlX:CallOk Tryz.prog 84:=⟨⟨_,Tryz.func84,rfl,by decide +kernel⟩⟩
theorem Qbq:CallOk Tryz.prog 85:=⟨⟨_,Tryz.func85,rfl,by decide +kernel⟩⟩
theorem Qpz:CallOk Tryz.prog 86:=⟨⟨_,Tryz.func86,rfl,by decide +kernel⟩⟩
theorem Qmq:CallOk Tryz.prog 91:=⟨⟨_,Tryz.func91,rfl,by decide +kernel⟩⟩
theorem Qka:CallOk Tryz.prog 92:=⟨⟨_,Tryz.func92,rfl,by decide +kernel⟩⟩
theorem Qaa:CallOk Tryz.prog 93:=⟨⟨_,Tryz.func93,rfl,by decide +kernel⟩⟩
theorem Qmi:CallOk Tryz.prog 94:=⟨⟨_,Tryz.func94,rfl,by decide +kernel⟩⟩
theorem QkY:CallOk Tryz.prog 96:=⟨⟨_,Tryz.func96,rfl,by decide +kernel⟩⟩
theorem Qk5:CallOk Tryz.prog 97:=⟨⟨_,Tryz.func97,rfl,by decide +kernel⟩⟩
theorem QfG:CallOk Tryz.prog 98:=⟨⟨_,Tryz.func98,rfl,by decide +kernel⟩⟩
theorem Qhj:CallOk Tryz.prog 99:=⟨⟨_,Tryz.func99,rfl,by decide +kernel⟩⟩
theorem Qi7:CallOk Tryz.prog 100:=⟨⟨_,Tryz.func100,rfl,by decide +kernel⟩⟩
theorem Qis:CallOk Tryz.prog 101:=⟨⟨_,Tryz.func101,rfl,by decide +kernel⟩⟩
theorem Qio:CallOk Tryz.prog 102:=⟨⟨_,Tryz.func102,rfl,by decide +kernel⟩⟩
theorem Qit:CallOk Tryz.prog 103:=⟨⟨_,Tryz.func103,rfl,by decide +kernel⟩⟩
theorem Qdp:CallOk Tryz.prog 104:=⟨⟨_,Tryz.func104,rfl,by decide +kernel⟩⟩
theorem Qja:CallOk Tryz.prog 105:=⟨⟨_,Tryz.func105,rfl,by decide +kernel⟩⟩
theorem Qq:CallOk Tryz.prog 106:=⟨⟨_,Tryz.func106,rfl,by decide +kernel⟩⟩
theorem Q2:CallOk Tryz.prog 107:=⟨⟨_,Tryz.func107,rfl,by decide +kernel⟩⟩
theorem Qkf:CallOk Tryz.prog 108:=⟨⟨_,Tryz.func108,rfl,by decide +kernel⟩⟩
theorem QdM:CallOk Tryz.prog 109:=⟨⟨_,Tryz.func109,rfl,by decide +kernel⟩⟩
theorem Qie:CallOk Tryz.prog 110:=⟨⟨_,Tryz.func110,rfl,by decide +kernel⟩⟩
theorem QI:CallOk Tryz.prog 111:=⟨⟨_,Tryz.func111,rfl,by decide +kernel⟩⟩
theorem QfT:CallOk Tryz.prog 112:=⟨⟨_,Tryz.func112,rfl,by decide +kernel⟩⟩
theorem QgT:CallOk Tryz.prog 113:=⟨⟨_,Tryz.func113,rfl,by decide +kernel⟩⟩
theorem QpA:CallOk Tryz.prog 114:=⟨⟨_,Tryz.func114,rfl,by decide +kernel⟩⟩
theorem QgS:CallOk Tryz.prog 115:=⟨⟨_,Tryz.func115,rfl,by decide +kernel⟩⟩
theorem QnP:CallOk Tryz.prog 116:=⟨⟨_,Tryz.func116,rfl,by decide +kernel⟩⟩
theorem QdO:CallOk Tryz.prog 117:=⟨⟨_,Tryz.func117,rfl,by decide +kernel⟩⟩
theorem Qmr:CallOk Tryz.prog 118:=⟨⟨_,Tryz.func118,rfl,by decide +kernel⟩⟩
theorem Qha:CallOk Tryz.prog 119:=⟨⟨_,Tryz.func119,rfl,by decide +kernel⟩⟩
theorem QpB:CallOk Tryz.prog 120:=⟨⟨_,Tryz.func120,rfl,by decide +kernel⟩⟩
theorem Qim:CallOk Tryz.prog 121:=⟨⟨_,Tryz.func121,rfl,by decide +kernel⟩⟩
theorem QpC:CallOk Tryz.prog 122:=⟨⟨_,Tryz.func122,rfl,by decide +kernel⟩⟩
theorem QcQ:CallOk Tryz.prog 123:=⟨⟨_,Tryz.func123,rfl,by decide +kernel⟩⟩
theorem Qd8:CallOk Tryz.prog 124:=⟨⟨_,Tryz.func124,rfl,by decide +kernel⟩⟩
theorem QkN:CallOk Tryz.prog 125:=⟨⟨_,Tryz.func125,rfl,by decide +kernel⟩⟩
theorem QhQ:CallOk Tryz.prog 126:=⟨⟨_,Tryz.func126,rfl,by decide +kernel⟩⟩
theorem QpD:CallOk Tryz.prog 127:=⟨⟨_,Tryz.func127,rfl,by decide +kernel⟩⟩
theorem Qnn:CallOk Tryz.prog 128:=⟨⟨_,Tryz.func128,rfl,by decide +kernel⟩⟩
theorem QlV:CallOk Tryz.prog 129:=⟨⟨_,Tryz.func129,rfl,by decide +kernel⟩⟩
theorem QcT:CallOk Tryz.prog 130:=⟨⟨_,Tryz.func130,rfl,by decide +kernel⟩⟩
theorem Qik:CallOk Tryz.prog 131:=⟨⟨_,Tryz.func131,rfl,by decide +kernel⟩⟩
theorem QcG:CallOk Tryz.prog 132:=⟨⟨_,Tryz.func132,rfl,by decide +kernel⟩⟩
theorem QhO:CallOk Tryz.prog 133:=⟨⟨_,Tryz.func133,rfl,by decide +kernel⟩⟩
theorem Qhh:CallOk Tryz.prog 134:=⟨⟨_,Tryz.func134,rfl,by decide +kernel⟩⟩
theorem Qms:CallOk Tryz.prog 135:=⟨⟨_,Tryz.func135,rfl,by decide +kernel⟩⟩
theorem Qi4:CallOk Tryz.prog 136:=⟨⟨_,Tryz.func136,rfl,by decide +kernel⟩⟩
theorem Qne:CallOk Tryz.prog 137:=⟨⟨_,Tryz.func137,rfl,by decide +kernel⟩⟩
theorem QcU:CallOk Tryz.prog 138:=⟨⟨_,Tryz.func138,rfl,by decide +kernel⟩⟩
theorem Qil:CallOk Tryz.prog 139:=⟨⟨_,Tryz.func139,rfl,by decide +kernel⟩⟩
theorem Qij:CallOk Tryz.prog 140:=⟨⟨_,Tryz.func140,rfl,by decide +kernel⟩⟩
theorem QnQ:CallOk Tryz.prog 141:=⟨⟨_,Tryz.func141,rfl,by decide +kernel⟩⟩
theorem Qmt:CallOk Tryz.prog 142:=⟨⟨_,Tryz.func142,rfl,by decide +kernel⟩⟩
theorem QdY:CallOk Tryz.prog 143:=⟨⟨_,Tryz.func143,rfl,by decide +kernel⟩⟩
theorem QjE:CallOk Tryz.prog 144:=⟨⟨_,Tryz.func144,rfl,by decide +kernel⟩⟩
theorem Qhi:CallOk Tryz.prog 145:=⟨⟨_,Tryz.func145,rfl,by decide +kernel⟩⟩
theorem QeI:CallOk Tryz.prog 146:=⟨⟨_,Tryz.func146,rfl,by decide +kernel⟩⟩
theorem QpF:CallOk Tryz.prog 147:=⟨⟨_,Tryz.func147,rfl,by decide +kernel⟩⟩
theorem Qdn:CallOk Tryz.prog 148:=⟨⟨_,Tryz.func148,rfl,by decide +kernel⟩⟩
theorem Qi5:CallOk Tryz.prog 149:=⟨⟨_,Tryz.func149,rfl,by decide +kernel⟩⟩
theorem QcF:CallOk Tryz.prog 150:=⟨⟨_,Tryz.func150,rfl,by decide +kernel⟩⟩
theorem QhN:CallOk Tryz.prog 151:=⟨⟨_,Tryz.func151,rfl,by decide +kernel⟩⟩
theorem QoE:CallOk Tryz.prog 152:=⟨⟨_,Tryz.func152,rfl,by decide +kernel⟩⟩
theorem Qjh:CallOk Tryz.prog 153:=⟨⟨_,Tryz.func153,rfl,by decide +kernel⟩⟩
theorem Qfs:CallOk Tryz.prog 154:=⟨⟨_,Tryz.func154,rfl,by decide +kernel⟩⟩
theorem Qig:CallOk Tryz.prog 155:=⟨⟨_,Tryz.func155,rfl,by decide +kernel⟩⟩
theorem QhK:CallOk Tryz.prog 156:=⟨⟨_,Tryz.func156,rfl,by decide +kernel⟩⟩
theorem Qfr:CallOk Tryz.prog 157:=⟨⟨_,Tryz.func157,rfl,by decide +kernel⟩⟩
theorem Qna:CallOk Tryz.prog 158:=⟨⟨_,Tryz.func158,rfl,by decide +kernel⟩⟩
theorem Qk3:CallOk Tryz.prog 159:=⟨⟨_,Tryz.func159,rfl,by decide +kernel⟩⟩
theorem QgD:CallOk Tryz.prog 160:=⟨⟨_,Tryz.func160,rfl,by decide +kernel⟩⟩
theorem QgC:CallOk Tryz.prog 161:=⟨⟨_,Tryz.func161,rfl,by decide +kernel⟩⟩
theorem Qmn:CallOk Tryz.prog 162:=⟨⟨_,Tryz.func162,rfl,by decide +kernel⟩⟩
theorem Qif:CallOk Tryz.prog 163:=⟨⟨_,Tryz.func163,rfl,by decide +kernel⟩⟩
theorem Qjg:CallOk Tryz.prog 164:=⟨⟨_,Tryz.func164,rfl,by decide +kernel⟩⟩
theorem Qiq:CallOk Tryz.prog 165:=⟨⟨_,Tryz.func165,rfl,by decide +kernel⟩⟩
theorem Qkb:CallOk Tryz.prog 168:=⟨⟨_,Tryz.func168,rfl,by decide +kernel⟩⟩
theorem QqD:CallOk Tryz.prog 169:=⟨⟨_,Tryz.func169,rfl,by decide +kernel⟩⟩
theorem QlY:CallOk Tryz.prog 170:=⟨⟨_,Tryz.func170,rfl,by decide +kernel⟩⟩
theorem QkO:CallOk Tryz.prog 171:=⟨⟨_,Tryz.func171,rfl,by decide +kernel⟩⟩
theorem QnN:CallOk Tryz.prog 172:=⟨⟨_,Tryz.func172,rfl,by decide +kernel⟩⟩
theorem Qgg:CallOk Tryz.prog 173:=⟨⟨_,Tryz.func173,rfl,by decide +kernel⟩⟩
theorem QlW:CallOk Tryz.prog 174:=⟨⟨_,Tryz.func174,rfl,by decide +kernel⟩⟩
theorem QhR:CallOk Tryz.prog 175:=⟨⟨_,Tryz.func175,rfl,by decide +kernel⟩⟩
theorem Qhk:CallOk Tryz.prog 176:=⟨⟨_,Tryz.func176,rfl,by decide +kernel⟩⟩
theorem Qf1:CallOk Tryz.prog 177:=⟨⟨_,Tryz.func177,rfl,by decide +kernel⟩⟩
theorem Qqy:CallOk Tryz.prog 179:=⟨⟨_,Tryz.func179,rfl,by decide +kernel⟩⟩
theorem QfR:CallOk Tryz.prog 180:=⟨⟨_,Tryz.func180,rfl,by decide +kernel⟩⟩
theorem Qir:CallOk Tryz.prog 181:=⟨⟨_,Tryz.func181,rfl,by decide +kernel⟩⟩
theorem QdJ:CallOk Tryz.prog 183:=⟨⟨_,Tryz.func183,rfl,by decide +kernel⟩⟩
theorem Qdi:CallOk Tryz.prog 184:=⟨⟨_,Tryz.func184,rfl,by decide +kernel⟩⟩
theorem QeN:CallOk Tryz.prog 185:=⟨⟨_,Tryz.func185,rfl,by decide +kernel⟩⟩
theorem QkM:CallOk Tryz.prog 186:=⟨⟨_,Tryz.func186,rfl,by decide +kernel⟩⟩
theorem QkL:CallOk Tryz.prog 187:=⟨⟨_,Tryz.func187,rfl,by decide +kernel⟩⟩
theorem QcE:CallOk Tryz.prog 188:=⟨⟨_,Tryz.func188,rfl,by decide +kernel⟩⟩
theorem QhM:CallOk Tryz.prog 189:=⟨⟨_,Tryz.func189,rfl,by decide +kernel⟩⟩
theorem QdK:CallOk Tryz.prog 190:=⟨⟨_,Tryz.func190,rfl,by decide +kernel⟩⟩
theorem Qcr:CallOk Tryz.prog 191:=⟨⟨_,Tryz.func191,rfl,by decide +kernel⟩⟩
theorem Qg9:CallOk Tryz.prog 192:=⟨⟨_,Tryz.func192,rfl,by decide +kernel⟩⟩
theorem Qgk:CallOk Tryz.prog 193:=⟨⟨_,Tryz.func193,rfl,by decide +kernel⟩⟩
theorem QeG:CallOk Tryz.prog 194:=⟨⟨_,Tryz.func194,rfl,by decide +kernel⟩⟩
theorem Qk4:CallOk Tryz.prog 195:=⟨⟨_,Tryz.func195,rfl,by decide +kernel⟩⟩
theorem QdX:CallOk Tryz.prog 196:=⟨⟨_,Tryz.func196,rfl,by decide +kernel⟩⟩
theorem QjB:CallOk Tryz.prog 197:=⟨⟨_,Tryz.func197,rfl,by decide +kernel⟩⟩
theorem Qd7:CallOk Tryz.prog 198:=⟨⟨_,Tryz.func198,rfl,by decide +kernel⟩⟩
theorem Qdh:CallOk Tryz.prog 199:=⟨⟨_,Tryz.func199,rfl,by decide +kernel⟩⟩
theorem Qj6:CallOk Tryz.prog 200:=⟨⟨_,Tryz.func200,rfl,by decide +kernel⟩⟩
theorem QkZ:CallOk Tryz.prog 201:=⟨⟨_,Tryz.func201,rfl,by decide +kernel⟩⟩
theorem Qk1:CallOk Tryz.prog 202:=⟨⟨_,Tryz.func202,rfl,by decide +kernel⟩⟩
theorem QqB:CallOk Tryz.prog 203:=⟨⟨_,Tryz.func203,rfl,by decide +kernel⟩⟩
theorem QbQ:CallOk Tryz.prog 204:=⟨⟨_,Tryz.func204,rfl,by decide +kernel⟩⟩
theorem Qbr:CallOk Tryz.prog 205:=⟨⟨_,Tryz.func205,rfl,by decide +kernel⟩⟩
theorem Qk7:CallOk Tryz.prog 206:=⟨⟨_,Tryz.func206,rfl,by decide +kernel⟩⟩
theorem QqC:CallOk Tryz.prog 207:=⟨⟨_,Tryz.func207,rfl,by decide +kernel⟩⟩
theorem Qrp:CallOk Tryz.prog 208:=⟨⟨_,Tryz.func208,rfl,by decide +kernel⟩⟩
theorem QpE:CallOk Tryz.prog 209:=⟨⟨_,Tryz.func209,rfl,by decide +kernel⟩⟩
theorem QoG:CallOk Tryz.prog 210:=⟨⟨_,Tryz.func210,rfl,by decide +kernel⟩⟩
theorem QoH:CallOk Tryz.prog 211:=⟨⟨_,Tryz.func211,rfl,by decide +kernel⟩⟩
theorem Qj8:CallOk Tryz.prog 212:=⟨⟨_,Tryz.func212,rfl,by decide +kernel⟩⟩
theorem QkK:CallOk Tryz.prog 213:=⟨⟨_,Tryz.func213,rfl,by decide +kernel⟩⟩
theorem QpG:CallOk Tryz.prog 214:=⟨⟨_,Tryz.func214,rfl,by decide +kernel⟩⟩
theorem Qjf:CallOk Tryz.prog 215:=⟨⟨_,Tryz.func215,rfl,by decide +kernel⟩⟩
theorem QhP:CallOk Tryz.prog 216:=⟨⟨_,Tryz.func216,rfl,by decide +kernel⟩⟩
theorem Qqz:CallOk Tryz.prog 217:=⟨⟨_,Tryz.func217,rfl,by decide +kernel⟩⟩
theorem Qin:CallOk Tryz.prog 218:=⟨⟨_,Tryz.func218,rfl,by decide +kernel⟩⟩
theorem Qgf:CallOk Tryz.prog 219:=⟨⟨_,Tryz.func219,rfl,by decide +kernel⟩⟩
theorem Qft:CallOk Tryz.prog 220:=⟨⟨_,Tryz.func220,rfl,by decide +kernel⟩⟩
theorem Qcp:CallOk Tryz.prog 221:=⟨⟨_,Tryz.func221,rfl,by decide +kernel⟩⟩
theorem Qdg:CallOk Tryz.prog 222:=⟨⟨_,Tryz.func222,rfl,by decide +kernel⟩⟩
theorem QcP:CallOk Tryz.prog 223:=⟨⟨_,Tryz.func223,rfl,by decide +kernel⟩⟩
theorem QdZ:CallOk Tryz.prog 224:=⟨⟨_,Tryz.func224,rfl,by decide +kernel⟩⟩
theorem QjF:CallOk Tryz.prog 225:=⟨⟨_,Tryz.func225,rfl,by decide +kernel⟩⟩
theorem QgP:CallOk Tryz.prog 226:=⟨⟨_,Tryz.func226,rfl,by decide +kernel⟩⟩
theorem QeF:CallOk Tryz.prog 227:=⟨⟨_,Tryz.func227,rfl,by decide +kernel⟩⟩
theorem Qk0:CallOk Tryz.prog 228:=⟨⟨_,Tryz.func228,rfl,by decide +kernel⟩⟩
theorem Qmk:CallOk Tryz.prog 229:=⟨⟨_,Tryz.func229,rfl,by decide +kernel⟩⟩
theorem Qmj:CallOk Tryz.prog 230:=⟨⟨_,Tryz.func230,rfl,by decide +kernel⟩⟩
theorem Qk8:CallOk Tryz.prog 231:=⟨⟨_,Tryz.func231,rfl,by decide +kernel⟩⟩
theorem Qhl:CallOk Tryz.prog 232:=⟨⟨_,Tryz.func232,rfl,by decide +kernel⟩⟩
theorem QfZ:CallOk Tryz.prog 233:=⟨⟨_,Tryz.func233,rfl,by decide +kernel⟩⟩
theorem Qkd:CallOk Tryz.prog 235:=⟨⟨_,Tryz.func235,rfl,by decide +kernel⟩⟩
theorem Qhg:CallOk Tryz.prog 236:=⟨⟨_,Tryz.func236,rfl,by decide +kernel⟩⟩
theorem Qpr:CallOk Tryz.prog 237:=⟨⟨_,Tryz.func237,rfl,by decide +kernel⟩⟩
theorem Qml:CallOk Tryz.prog 238:=⟨⟨_,Tryz.func238,rfl,by decide +kernel⟩⟩
theorem Qcq:CallOk Tryz.prog 239:=⟨⟨_,Tryz.func239,rfl,by decide +kernel⟩⟩
theorem QgO:CallOk Tryz.prog 241:=⟨⟨_,Tryz.func241,rfl,by decide +kernel⟩⟩
theorem QdI:CallOk Tryz.prog 242:=⟨⟨_,Tryz.func242,rfl,by decide +kernel⟩⟩
theorem QeH:CallOk Tryz.prog 243:=⟨⟨_,Tryz.func243,rfl,by decide +kernel⟩⟩
theorem Qou:CallOk Tryz.prog 244:=⟨⟨_,Tryz.func244,rfl,by decide +kernel⟩⟩
theorem Qpq:CallOk Tryz.prog 245:=⟨⟨_,Tryz.func245,rfl,by decide +kernel⟩⟩
theorem Qot:CallOk Tryz.prog 246:=⟨⟨_,Tryz.func246,rfl,by decide +kernel⟩⟩
theorem QoI:CallOk Tryz.prog 247:=⟨⟨_,Tryz.func247,rfl,by decide +kernel⟩⟩
theorem Qmu:CallOk Tryz.prog 248:=⟨⟨_,Tryz.func248,rfl,by decide +kernel⟩⟩
theorem Qj9:CallOk Tryz.prog 255:=⟨⟨_,Tryz.func255,rfl,by decide +kernel⟩⟩
theorem Qov:CallOk Tryz.prog 256:=⟨⟨_,Tryz.func256,rfl,by decide +kernel⟩⟩
theorem Qfh:CallOk Tryz.prog 262:=⟨⟨_,Tryz.func262,rfl,by decide +kernel⟩⟩
theorem Qi3:CallOk Tryz.prog 263:=⟨⟨_,Tryz.func263,rfl,by decide +kernel⟩⟩
theorem Qii:CallOk Tryz.prog 264:=⟨⟨_,Tryz.func264,rfl,by decide +kernel⟩⟩
theorem Qi2:CallOk Tryz.prog 265:=⟨⟨_,Tryz.func265,rfl,by decide +kernel⟩⟩
theorem Qih:CallOk Tryz.prog 266:=⟨⟨_,Tryz.func266,rfl,by decide +kernel⟩⟩
theorem QhL:CallOk Tryz.prog 267:=⟨⟨_,Tryz.func267,rfl,by decide +kernel⟩⟩
theorem Qg8:CallOk Tryz.prog 268:=⟨⟨_,Tryz.func268,rfl,by decide +kernel⟩⟩
theorem QgR:CallOk Tryz.prog 269:=⟨⟨_,Tryz.func269,rfl,by decide +kernel⟩⟩
theorem QdN:CallOk Tryz.prog 272:=⟨⟨_,Tryz.func272,rfl,by decide +kernel⟩⟩
theorem QhI:ExtOk Tryz.prog 178 Extern.AbiNoEscape.same:=⟨⟨_,Tryz.func178,by kernel_rfl,by kernel_rfl,by kernel_rfl,by kernel_rfl⟩⟩
theorem QeM:ExtOk Tryz.prog 253 Extern.BytealgIndexByte.indexByte:=⟨⟨_,Tryz.func253,by kernel_rfl,by kernel_rfl,by kernel_rfl,by kernel_rfl⟩⟩
abbrev tyB:TypeId:=85
abbrev tyE:TypeId:=5
abbrev Bd (bs:Str):GO:=.bld tyB tyE bs
def Qas (C:Ctx) (p_m:Qg) (K:Bool→Heap→Prop) (H:Heap):Prop:=
 Spec Tryz.prog C 3 [.agg (Qg.c p_m).toArray] H (fun v H2=>∃ (r0:Bool),v=.bool r0∧K r0 H2)
theorem Qas.gh {C:Ctx} {p_m:Qg} {K:Bool→Heap→Prop} {H:Heap} (h:Qas C p_m (fun r0 H2=>∃ H0,Gh C H2 H0∧K r0 H0) H):Qas C p_m K H:=
 Spec.gh (Spec.mono h fun _ H2 ⟨r0,hv,H0,hg,hk⟩=>⟨H0,hg,r0,hv,hk⟩)
def Qc6 (C:Ctx) (p_m:Qg) (K:Bool→Heap→Prop) (H:Heap):Prop:=
 Spec Tryz.prog C 8 [.agg (Qg.c p_m).toArray] H (fun v H2=>∃ (r0:Bool),v=.bool r0∧K r0 H2)
theorem Qc6.gh {C:Ctx} {p_m:Qg} {K:Bool→Heap→Prop} {H:Heap} (h:Qc6 C p_m (fun r0 H2=>∃ H0,Gh C H2 H0∧K r0 H0) H):Qc6 C p_m K H:=
 Spec.gh (Spec.mono h fun _ H2 ⟨r0,hv,H0,hg,hk⟩=>⟨H0,hg,r0,hv,hk⟩)
def Qgy (C:Ctx) (K:Bool→Heap→Prop) (H:Heap):Prop:=
 Spec Tryz.prog C 9 [] H (fun v H2=>∃ (r0:Bool),v=.bool r0∧K r0 H2)
def QcZ (C:Ctx) (p_m:Qg) (K:Str→Int→Heap→Prop) (H:Heap):Prop:=
 Spec Tryz.prog C 10 [.agg (Qg.c p_m).toArray] H (fun v H2=>∃ (r0:Str) (r1:Int),v=.tuple #[sv r0,.int .i64 r1]∧K r0 r1 H2)
theorem QcZ.gh {C:Ctx} {p_m:Qg} {K:Str→Int→Heap→Prop} {H:Heap} (h:QcZ C p_m (fun r0 r1 H2=>∃ H0,Gh C H2 H0∧K r0 r1 H0) H):QcZ C p_m K H:=
 Spec.gh (Spec.mono h fun _ H2 ⟨r0,r1,hv,H0,hg,hk⟩=>⟨H0,hg,r0,r1,hv,hk⟩)
def Qc8 (C:Ctx) (p_m:Qg) (K:Str→Int→Heap→Prop) (H:Heap):Prop:=
 Spec Tryz.prog C 11 [.agg (Qg.c p_m).toArray] H (fun v H2=>∃ (r0:Str) (r1:Int),v=.tuple #[sv r0,.int .i64 r1]∧K r0 r1 H2)
theorem Qc8.gh {C:Ctx} {p_m:Qg} {K:Str→Int→Heap→Prop} {H:Heap} (h:Qc8 C p_m (fun r0 r1 H2=>∃ H0,Gh C H2 H0∧K r0 r1 H0) H):Qc8 C p_m K H:=
 Spec.gh (Spec.mono h fun _ H2 ⟨r0,r1,hv,H0,hg,hk⟩=>⟨H0,hg,r0,r1,hv,hk⟩)
def QcY (C:Ctx) (p_m:Qg) (K:Int→Heap→Prop) (H:Heap):Prop:=
 Spec Tryz.prog C 12 [.agg (Qg.c p_m).toArray] H (fun v H2=>∃ (r0:Int),v=.int .i64 r0∧K r0 H2)
theorem QcY.gh {C:Ctx} {p_m:Qg} {K:Int→Heap→Prop} {H:Heap} (h:QcY C p_m (fun r0 H2=>∃ H0,Gh C H2 H0∧K r0 H0) H):QcY C p_m K H:=
 Spec.gh (Spec.mono h fun _ H2 ⟨r0,hv,H0,hg,hk⟩=>⟨H0,hg,r0,hv,hk⟩)
def Qcm (C:Ctx) (p_m:Qg) (K:Int→Heap→Prop) (H:Heap):Prop:=
 Spec Tryz.prog C 13 [.agg (Qg.c p_m).toArray] H (fun v H2=>∃ (r0:Int),v=.int .i64 r0∧K r0 H2)
theorem Qcm.gh {C:Ctx} {p_m:Qg} {K:Int→Heap→Prop} {H:Heap} (h:Qcm C p_m (fun r0 H2=>∃ H0,Gh C H2 H0∧K r0 H0) H):Qcm C p_m K H:=
 Spec.gh (Spec.mono h fun _ H2 ⟨r0,hv,H0,hg,hk⟩=>⟨H0,hg,r0,hv,hk⟩)
def QeW (C:Ctx) (p_a:Qg) (p_b:Qg) (K:Bool→Heap→Prop) (H:Heap):Prop:=
 Spec Tryz.prog C 14 [.agg (Qg.c p_a).toArray,.agg (Qg.c p_b).toArray] H (fun v H2=>∃ (r0:Bool),v=.bool r0∧K r0 H2)
theorem QeW.gh {C:Ctx} {p_a:Qg} {p_b:Qg} {K:Bool→Heap→Prop} {H:Heap} (h:QeW C p_a p_b (fun r0 H2=>∃ H0,Gh C H2 H0∧K r0 H0) H):QeW C p_a p_b K H:=
 Spec.gh (Spec.mono h fun _ H2 ⟨r0,hv,H0,hg,hk⟩=>⟨H0,hg,r0,hv,hk⟩)
def Qaz (C:Ctx) (p_l:Sl) (p_most:Int) (K:Int→Heap→Prop) (H:Heap):Prop:=
 Spec Tryz.prog C 19 [slv p_l,.int .i64 p_most] H (fun v H2=>∃ (r0:Int),v=.int .i64 r0∧K r0 H2)
theorem Qaz.gh {C:Ctx} {p_l:Sl} {p_most:Int} {K:Int→Heap→Prop} {H:Heap} (h:Qaz C p_l p_most (fun r0 H2=>∃ H0,Gh C H2 H0∧K r0 H0) H):Qaz C p_l p_most K H:=
 Spec.gh (Spec.mono h fun _ H2 ⟨r0,hv,H0,hg,hk⟩=>⟨H0,hg,r0,hv,hk⟩)
def QbX (C:Ctx) (p_l:Sl) (p_most:Int) (K:Int→Heap→Prop) (H:Heap):Prop:=
 Spec Tryz.prog C 21 [slv p_l,.int .i64 p_most] H (fun v H2=>∃ (r0:Int),v=.int .i64 r0∧K r0 H2)
theorem QbX.gh {C:Ctx} {p_l:Sl} {p_most:Int} {K:Int→Heap→Prop} {H:Heap} (h:QbX C p_l p_most (fun r0 H2=>∃ H0,Gh C H2 H0∧K r0 H0) H):QbX C p_l p_most K H:=
 Spec.gh (Spec.mono h fun _ H2 ⟨r0,hv,H0,hg,hk⟩=>⟨H0,hg,r0,hv,hk⟩)
def QcV (C:Ctx) (p_l:Sl) (p_most:Int) (K:Int→Heap→Prop) (H:Heap):Prop:=
 Spec Tryz.prog C 22 [slv p_l,.int .i64 p_most] H (fun v H2=>∃ (r0:Int),v=.int .i64 r0∧K r0 H2)
theorem QcV.gh {C:Ctx} {p_l:Sl} {p_most:Int} {K:Int→Heap→Prop} {H:Heap} (h:QcV C p_l p_most (fun r0 H2=>∃ H0,Gh C H2 H0∧K r0 H0) H):QcV C p_l p_most K H:=
 Spec.gh (Spec.mono h fun _ H2 ⟨r0,hv,H0,hg,hk⟩=>⟨H0,hg,r0,hv,hk⟩)
def Qal (C:Ctx) (p_s:Str) (K:Qa→Heap→Prop) (H:Heap):Prop:=
 Spec Tryz.prog C 23 [sv p_s] H (fun v H2=>∃ (r0:Qa),v=.agg (Qa.c r0).toArray∧K r0 H2)
def QlO (C:Ctx) (p_e:Qa) (K:Sl→Heap→Prop) (H:Heap):Prop:=
 Spec Tryz.prog C 24 [.agg (Qa.c p_e).toArray] H (fun v H2=>∃ (r0:Sl),v=slv r0∧K r0 H2)
def QH (C:Ctx) (p_w:Option (Nat×Nat)) (p_l:Sl) (K:Heap→Prop) (H:Heap):Prop:=
 Spec Tryz.prog C 25 [pv p_w,slv p_l] H (fun v H2=>v=.tuple #[]∧K H2)
def QdG (C:Ctx) (p_w:Option (Nat×Nat)) (p_l:Sl) (p_between:Str) (p_write:Value) (K:Heap→Prop) (H:Heap):Prop:=
 Spec Tryz.prog C 26 [pv p_w,slv p_l,sv p_between,p_write] H (fun v H2=>v=.tuple #[]∧K H2)
def QkT (C:Ctx) (p_x:Qn) (v0:Nat×Nat) (K:Heap→Prop) (H:Heap):Prop:=
 Spec Tryz.prog C 27 [.agg (Qn.c p_x).toArray,pv (some v0)] H (fun v H2=>v=.tuple #[]∧K H2)
def Qdf (C:Ctx) (p_w:Option (Nat×Nat)) (p_l:Sl) (p_between:Str) (p_write:Value) (K:Heap→Prop) (H:Heap):Prop:=
 Spec Tryz.prog C 28 [pv p_w,slv p_l,sv p_between,p_write] H (fun v H2=>v=.tuple #[]∧K H2)
def QfY (C:Ctx) (p_w:Option (Nat×Nat)) (p_t:Qf) (K:Heap→Prop) (H:Heap):Prop:=
 Spec Tryz.prog C 29 [pv p_w,.agg (Qf.c p_t).toArray] H (fun v H2=>v=.tuple #[]∧K H2)
def QdH (C:Ctx) (p_w:Option (Nat×Nat)) (p_l:Sl) (p_between:Str) (p_write:Value) (K:Heap→Prop) (H:Heap):Prop:=
 Spec Tryz.prog C 30 [pv p_w,slv p_l,sv p_between,p_write] H (fun v H2=>v=.tuple #[]∧K H2)
def Qgi (C:Ctx) (p_w:Option (Nat×Nat)) (p_x:Qi) (K:Heap→Prop) (H:Heap):Prop:=
 Spec Tryz.prog C 31 [pv p_w,.agg (Qi.c p_x).toArray] H (fun v H2=>v=.tuple #[]∧K H2)
def QeC (C:Ctx) (p_w:Option (Nat×Nat)) (p_l:Sl) (p_between:Str) (p_write:Value) (K:Heap→Prop) (H:Heap):Prop:=
 Spec Tryz.prog C 32 [pv p_w,slv p_l,sv p_between,p_write] H (fun v H2=>v=.tuple #[]∧K H2)
def Qhe (C:Ctx) (p_w:Option (Nat×Nat)) (p_r:Qk) (K:Heap→Prop) (H:Heap):Prop:=
 Spec Tryz.prog C 33 [pv p_w,.agg (Qk.c p_r).toArray] H (fun v H2=>v=.tuple #[]∧K H2)
def Qd5 (C:Ctx) (p_w:Option (Nat×Nat)) (p_l:Sl) (p_between:Str) (p_write:Value) (K:Heap→Prop) (H:Heap):Prop:=
 Spec Tryz.prog C 34 [pv p_w,slv p_l,sv p_between,p_write] H (fun v H2=>v=.tuple #[]∧K H2)
def QkU (C:Ctx) (p_x:Ql) (v0:Nat×Nat) (K:Heap→Prop) (H:Heap):Prop:=
 Spec Tryz.prog C 35 [.agg (Ql.c p_x).toArray,pv (some v0)] H (fun v H2=>v=.tuple #[]∧K H2)
def Qa2 (C:Ctx) (p_w:Option (Nat×Nat)) (p_l:Sl) (p_between:Str) (p_write:Value) (K:Heap→Prop) (H:Heap):Prop:=
 Spec Tryz.prog C 36 [pv p_w,slv p_l,sv p_between,p_write] H (fun v H2=>v=.tuple #[]∧K H2)
def QfX (C:Ctx) (p_w:Option (Nat×Nat)) (p_x:Qc) (K:Heap→Prop) (H:Heap):Prop:=
 Spec Tryz.prog C 37 [pv p_w,.agg (Qc.c p_x).toArray] H (fun v H2=>v=.tuple #[]∧K H2)
def Qj (C:Ctx) (p_b:Option (Nat×Nat)) (p_s:Str) (K:Int→Value→Heap→Prop) (H:Heap):Prop:=
 Spec Tryz.prog C 38 [pv p_b,sv p_s] H (fun v H2=>∃ (r0:Int) (r1:Value),v=.tuple #[.int .i64 r0,r1]∧K r0 r1 H2)
theorem Qj.gh {C:Ctx} {p_b:Option (Nat×Nat)} {p_s:Str} {K:Int→Value→Heap→Prop} {H:Heap} (h:Qj C p_b p_s (fun r0 r1 H2=>∃ H0,Gh C H2 H0∧K r0 r1 H0) H):Qj C p_b p_s K H:=
 Spec.gh (Spec.mono h fun _ H2 ⟨r0,r1,hv,H0,hg,hk⟩=>⟨H0,hg,r0,r1,hv,hk⟩)
def QU (C:Ctx) (p_b:Option (Nat×Nat)) (K:Str→Heap→Prop) (H:Heap):Prop:=
 Spec Tryz.prog C 39 [pv p_b] H (fun v H2=>∃ (r0:Str),v=sv r0∧K r0 H2)
theorem QU.gh {C:Ctx} {p_b:Option (Nat×Nat)} {K:Str→Heap→Prop} {H:Heap} (h:QU C p_b (fun r0 H2=>∃ H0,Gh C H2 H0∧K r0 H0) H):QU C p_b K H:=
 Spec.gh (Spec.mono h fun _ H2 ⟨r0,hv,H0,hg,hk⟩=>⟨H0,hg,r0,hv,hk⟩)
def QbM (C:Ctx) (p_t:Qf) (K:Str→Heap→Prop) (H:Heap):Prop:=
 Spec Tryz.prog C 40 [.agg (Qf.c p_t).toArray] H (fun v H2=>∃ (r0:Str),v=sv r0∧K r0 H2)
theorem QbM.gh {C:Ctx} {p_t:Qf} {K:Str→Heap→Prop} {H:Heap} (h:QbM C p_t (fun r0 H2=>∃ H0,Gh C H2 H0∧K r0 H0) H):QbM C p_t K H:=
 Spec.gh (Spec.mono h fun _ H2 ⟨r0,hv,H0,hg,hk⟩=>⟨H0,hg,r0,hv,hk⟩)
def QiU (C:Ctx) (p_is:Bool) (K:Str→Heap→Prop) (H:Heap):Prop:=
 Spec Tryz.prog C 41 [.bool p_is] H (fun v H2=>∃ (r0:Str),v=sv r0∧K r0 H2)
def Qau (C:Ctx) (p_l:Sl) (K:Str→Heap→Prop) (H:Heap):Prop:=
 Spec Tryz.prog C 42 [slv p_l] H (fun v H2=>∃ (r0:Str),v=sv r0∧K r0 H2)
theorem Qau.gh {C:Ctx} {p_l:Sl} {K:Str→Heap→Prop} {H:Heap} (h:Qau C p_l (fun r0 H2=>∃ H0,Gh C H2 H0∧K r0 H0) H):Qau C p_l K H:=
 Spec.gh (Spec.mono h fun _ H2 ⟨r0,hv,H0,hg,hk⟩=>⟨H0,hg,r0,hv,hk⟩)
def QbL (C:Ctx) (p_r:Qk) (K:Str→Heap→Prop) (H:Heap):Prop:=
 Spec Tryz.prog C 43 [.agg (Qk.c p_r).toArray] H (fun v H2=>∃ (r0:Str),v=sv r0∧K r0 H2)
theorem QbL.gh {C:Ctx} {p_r:Qk} {K:Str→Heap→Prop} {H:Heap} (h:QbL C p_r (fun r0 H2=>∃ H0,Gh C H2 H0∧K r0 H0) H):QbL C p_r K H:=
 Spec.gh (Spec.mono h fun _ H2 ⟨r0,hv,H0,hg,hk⟩=>⟨H0,hg,r0,hv,hk⟩)
def Qa9 (C:Ctx) (p_l:Sl) (K:Str→Heap→Prop) (H:Heap):Prop:=
 Spec Tryz.prog C 44 [slv p_l] H (fun v H2=>∃ (r0:Str),v=sv r0∧K r0 H2)
theorem Qa9.gh {C:Ctx} {p_l:Sl} {K:Str→Heap→Prop} {H:Heap} (h:Qa9 C p_l (fun r0 H2=>∃ H0,Gh C H2 H0∧K r0 H0) H):Qa9 C p_l K H:=
 Spec.gh (Spec.mono h fun _ H2 ⟨r0,hv,H0,hg,hk⟩=>⟨H0,hg,r0,hv,hk⟩)
def QeX (C:Ctx) (p_m:Qg) (K:Int→Heap→Prop) (H:Heap):Prop:=
 Spec Tryz.prog C 45 [.agg (Qg.c p_m).toArray] H (fun v H2=>∃ (r0:Int),v=.int .i64 r0∧K r0 H2)
theorem QeX.gh {C:Ctx} {p_m:Qg} {K:Int→Heap→Prop} {H:Heap} (h:QeX C p_m (fun r0 H2=>∃ H0,Gh C H2 H0∧K r0 H0) H):QeX C p_m K H:=
 Spec.gh (Spec.mono h fun _ H2 ⟨r0,hv,H0,hg,hk⟩=>⟨H0,hg,r0,hv,hk⟩)
def Qbp (C:Ctx) (p_s:Str) (K:Bool→Heap→Prop) (H:Heap):Prop:=
 Spec Tryz.prog C 46 [sv p_s] H (fun v H2=>∃ (r0:Bool),v=.bool r0∧K r0 H2)
def Qam (C:Ctx) (p_l:Sl) (p_is:Value) (K:Bool→Heap→Prop) (H:Heap):Prop:=
 Spec Tryz.prog C 47 [slv p_l,p_is] H (fun v H2=>∃ (r0:Bool),v=.bool r0∧K r0 H2)
theorem Qam.gh {C:Ctx} {p_l:Sl} {p_is:Value} {K:Bool→Heap→Prop} {H:Heap} (h:Qam C p_l p_is (fun r0 H2=>∃ H0,Gh C H2 H0∧K r0 H0) H):Qam C p_l p_is K H:=
 Spec.gh (Spec.mono h fun _ H2 ⟨r0,hv,H0,hg,hk⟩=>⟨H0,hg,r0,hv,hk⟩)
def Qdu (C:Ctx) (p_x:Qn) (K:Bool→Heap→Prop) (H:Heap):Prop:=
 Spec Tryz.prog C 48 [.agg (Qn.c p_x).toArray] H (fun v H2=>∃ (r0:Bool),v=.bool r0∧K r0 H2)
theorem Qdu.gh {C:Ctx} {p_x:Qn} {K:Bool→Heap→Prop} {H:Heap} (h:Qdu C p_x (fun r0 H2=>∃ H0,Gh C H2 H0∧K r0 H0) H):Qdu C p_x K H:=
 Spec.gh (Spec.mono h fun _ H2 ⟨r0,hv,H0,hg,hk⟩=>⟨H0,hg,r0,hv,hk⟩)
def Qah (C:Ctx) (p_l:Sl) (p_is:Value) (K:Bool→Heap→Prop) (H:Heap):Prop:=
 Spec Tryz.prog C 49 [slv p_l,p_is] H (fun v H2=>∃ (r0:Bool),v=.bool r0∧K r0 H2)
theorem Qah.gh {C:Ctx} {p_l:Sl} {p_is:Value} {K:Bool→Heap→Prop} {H:Heap} (h:Qah C p_l p_is (fun r0 H2=>∃ H0,Gh C H2 H0∧K r0 H0) H):Qah C p_l p_is K H:=
 Spec.gh (Spec.mono h fun _ H2 ⟨r0,hv,H0,hg,hk⟩=>⟨H0,hg,r0,hv,hk⟩)
def QdB (C:Ctx) (p_t:Qf) (K:Bool→Heap→Prop) (H:Heap):Prop:=
 Spec Tryz.prog C 50 [.agg (Qf.c p_t).toArray] H (fun v H2=>∃ (r0:Bool),v=.bool r0∧K r0 H2)
theorem QdB.gh {C:Ctx} {p_t:Qf} {K:Bool→Heap→Prop} {H:Heap} (h:QdB C p_t (fun r0 H2=>∃ H0,Gh C H2 H0∧K r0 H0) H):QdB C p_t K H:=
 Spec.gh (Spec.mono h fun _ H2 ⟨r0,hv,H0,hg,hk⟩=>⟨H0,hg,r0,hv,hk⟩)
def Qan (C:Ctx) (p_l:Sl) (p_is:Value) (K:Bool→Heap→Prop) (H:Heap):Prop:=
 Spec Tryz.prog C 51 [slv p_l,p_is] H (fun v H2=>∃ (r0:Bool),v=.bool r0∧K r0 H2)
theorem Qan.gh {C:Ctx} {p_l:Sl} {p_is:Value} {K:Bool→Heap→Prop} {H:Heap} (h:Qan C p_l p_is (fun r0 H2=>∃ H0,Gh C H2 H0∧K r0 H0) H):Qan C p_l p_is K H:=
 Spec.gh (Spec.mono h fun _ H2 ⟨r0,hv,H0,hg,hk⟩=>⟨H0,hg,r0,hv,hk⟩)
def Qdv (C:Ctx) (p_x:Qi) (K:Bool→Heap→Prop) (H:Heap):Prop:=
 Spec Tryz.prog C 52 [.agg (Qi.c p_x).toArray] H (fun v H2=>∃ (r0:Bool),v=.bool r0∧K r0 H2)
theorem Qdv.gh {C:Ctx} {p_x:Qi} {K:Bool→Heap→Prop} {H:Heap} (h:Qdv C p_x (fun r0 H2=>∃ H0,Gh C H2 H0∧K r0 H0) H):Qdv C p_x K H:=
 Spec.gh (Spec.mono h fun _ H2 ⟨r0,hv,H0,hg,hk⟩=>⟨H0,hg,r0,hv,hk⟩)
def Qcn (C:Ctx) (p_l:Sl) (p_named:Bool) (K:Bool→Heap→Prop) (H:Heap):Prop:=
 Spec Tryz.prog C 53 [slv p_l,.bool p_named] H (fun v H2=>∃ (r0:Bool),v=.bool r0∧K r0 H2)
theorem Qcn.gh {C:Ctx} {p_l:Sl} {p_named:Bool} {K:Bool→Heap→Prop} {H:Heap} (h:Qcn C p_l p_named (fun r0 H2=>∃ H0,Gh C H2 H0∧K r0 H0) H):Qcn C p_l p_named K H:=
 Spec.gh (Spec.mono h fun _ H2 ⟨r0,hv,H0,hg,hk⟩=>⟨H0,hg,r0,hv,hk⟩)
def Qao (C:Ctx) (p_l:Sl) (p_is:Value) (K:Bool→Heap→Prop) (H:Heap):Prop:=
 Spec Tryz.prog C 54 [slv p_l,p_is] H (fun v H2=>∃ (r0:Bool),v=.bool r0∧K r0 H2)
theorem Qao.gh {C:Ctx} {p_l:Sl} {p_is:Value} {K:Bool→Heap→Prop} {H:Heap} (h:Qao C p_l p_is (fun r0 H2=>∃ H0,Gh C H2 H0∧K r0 H0) H):Qao C p_l p_is K H:=
 Spec.gh (Spec.mono h fun _ H2 ⟨r0,hv,H0,hg,hk⟩=>⟨H0,hg,r0,hv,hk⟩)
def QfO (C:Ctx) (p_r:Qk) (K:Bool→Heap→Prop) (H:Heap):Prop:=
 Spec Tryz.prog C 55 [.agg (Qk.c p_r).toArray] H (fun v H2=>∃ (r0:Bool),v=.bool r0∧K r0 H2)
theorem QfO.gh {C:Ctx} {p_r:Qk} {K:Bool→Heap→Prop} {H:Heap} (h:QfO C p_r (fun r0 H2=>∃ H0,Gh C H2 H0∧K r0 H0) H):QfO C p_r K H:=
 Spec.gh (Spec.mono h fun _ H2 ⟨r0,hv,H0,hg,hk⟩=>⟨H0,hg,r0,hv,hk⟩)
def Qae (C:Ctx) (p_l:Sl) (p_is:Value) (K:Bool→Heap→Prop) (H:Heap):Prop:=
 Spec Tryz.prog C 56 [slv p_l,p_is] H (fun v H2=>∃ (r0:Bool),v=.bool r0∧K r0 H2)
theorem Qae.gh {C:Ctx} {p_l:Sl} {p_is:Value} {K:Bool→Heap→Prop} {H:Heap} (h:Qae C p_l p_is (fun r0 H2=>∃ H0,Gh C H2 H0∧K r0 H0) H):Qae C p_l p_is K H:=
 Spec.gh (Spec.mono h fun _ H2 ⟨r0,hv,H0,hg,hk⟩=>⟨H0,hg,r0,hv,hk⟩)
def Qdw (C:Ctx) (p_x:Ql) (K:Bool→Heap→Prop) (H:Heap):Prop:=
 Spec Tryz.prog C 57 [.agg (Ql.c p_x).toArray] H (fun v H2=>∃ (r0:Bool),v=.bool r0∧K r0 H2)
theorem Qdw.gh {C:Ctx} {p_x:Ql} {K:Bool→Heap→Prop} {H:Heap} (h:Qdw C p_x (fun r0 H2=>∃ H0,Gh C H2 H0∧K r0 H0) H):Qdw C p_x K H:=
 Spec.gh (Spec.mono h fun _ H2 ⟨r0,hv,H0,hg,hk⟩=>⟨H0,hg,r0,hv,hk⟩)
def QT (C:Ctx) (p_l:Sl) (p_is:Value) (K:Bool→Heap→Prop) (H:Heap):Prop:=
 Spec Tryz.prog C 58 [slv p_l,p_is] H (fun v H2=>∃ (r0:Bool),v=.bool r0∧K r0 H2)
theorem QT.gh {C:Ctx} {p_l:Sl} {p_is:Value} {K:Bool→Heap→Prop} {H:Heap} (h:QT C p_l p_is (fun r0 H2=>∃ H0,Gh C H2 H0∧K r0 H0) H):QT C p_l p_is K H:=
 Spec.gh (Spec.mono h fun _ H2 ⟨r0,hv,H0,hg,hk⟩=>⟨H0,hg,r0,hv,hk⟩)
def Qdz (C:Ctx) (p_x:Qc) (K:Bool→Heap→Prop) (H:Heap):Prop:=
 Spec Tryz.prog C 59 [.agg (Qc.c p_x).toArray] H (fun v H2=>∃ (r0:Bool),v=.bool r0∧K r0 H2)
theorem Qdz.gh {C:Ctx} {p_x:Qc} {K:Bool→Heap→Prop} {H:Heap} (h:Qdz C p_x (fun r0 H2=>∃ H0,Gh C H2 H0∧K r0 H0) H):Qdz C p_x K H:=
 Spec.gh (Spec.mono h fun _ H2 ⟨r0,hv,H0,hg,hk⟩=>⟨H0,hg,r0,hv,hk⟩)
def Qdx (C:Ctx) (p_x:Qk) (K:Bool→Heap→Prop) (H:Heap):Prop:=
 Spec Tryz.prog C 60 [.agg (Qk.c p_x).toArray] H (fun v H2=>∃ (r0:Bool),v=.bool r0∧K r0 H2)
theorem Qdx.gh {C:Ctx} {p_x:Qk} {K:Bool→Heap→Prop} {H:Heap} (h:Qdx C p_x (fun r0 H2=>∃ H0,Gh C H2 H0∧K r0 H0) H):Qdx C p_x K H:=
 Spec.gh (Spec.mono h fun _ H2 ⟨r0,hv,H0,hg,hk⟩=>⟨H0,hg,r0,hv,hk⟩)
def Qdy (C:Ctx) (p_x:Ql) (K:Bool→Heap→Prop) (H:Heap):Prop:=
 Spec Tryz.prog C 61 [.agg (Ql.c p_x).toArray] H (fun v H2=>∃ (r0:Bool),v=.bool r0∧K r0 H2)
theorem Qdy.gh {C:Ctx} {p_x:Ql} {K:Bool→Heap→Prop} {H:Heap} (h:Qdy C p_x (fun r0 H2=>∃ H0,Gh C H2 H0∧K r0 H0) H):Qdy C p_x K H:=
 Spec.gh (Spec.mono h fun _ H2 ⟨r0,hv,H0,hg,hk⟩=>⟨H0,hg,r0,hv,hk⟩)
def Qd3 (C:Ctx) (p_m:Qg) (K:Int→Heap→Prop) (H:Heap):Prop:=
 Spec Tryz.prog C 62 [.agg (Qg.c p_m).toArray] H (fun v H2=>∃ (r0:Int),v=.int .i64 r0∧K r0 H2)
theorem Qd3.gh {C:Ctx} {p_m:Qg} {K:Int→Heap→Prop} {H:Heap} (h:Qd3 C p_m (fun r0 H2=>∃ H0,Gh C H2 H0∧K r0 H0) H):Qd3 C p_m K H:=
 Spec.gh (Spec.mono h fun _ H2 ⟨r0,hv,H0,hg,hk⟩=>⟨H0,hg,r0,hv,hk⟩)
def Qat (C:Ctx) (p_s:Str) (K:Bool→Heap→Prop) (H:Heap):Prop:=
 Spec Tryz.prog C 63 [sv p_s] H (fun v H2=>∃ (r0:Bool),v=.bool r0∧K r0 H2)
def Qda (C:Ctx) (p_l:Sl) (K:Bool→Heap→Prop) (H:Heap):Prop:=
 Spec Tryz.prog C 64 [slv p_l] H (fun v H2=>∃ (r0:Bool),v=.bool r0∧K r0 H2)
theorem Qda.gh {C:Ctx} {p_l:Sl} {K:Bool→Heap→Prop} {H:Heap} (h:Qda C p_l (fun r0 H2=>∃ H0,Gh C H2 H0∧K r0 H0) H):Qda C p_l K H:=
 Spec.gh (Spec.mono h fun _ H2 ⟨r0,hv,H0,hg,hk⟩=>⟨H0,hg,r0,hv,hk⟩)
def Qc9 (C:Ctx) (p_l:Sl) (K:Bool→Heap→Prop) (H:Heap):Prop:=
 Spec Tryz.prog C 65 [slv p_l] H (fun v H2=>∃ (r0:Bool),v=.bool r0∧K r0 H2)
theorem Qc9.gh {C:Ctx} {p_l:Sl} {K:Bool→Heap→Prop} {H:Heap} (h:Qc9 C p_l (fun r0 H2=>∃ H0,Gh C H2 H0∧K r0 H0) H):Qc9 C p_l K H:=
 Spec.gh (Spec.mono h fun _ H2 ⟨r0,hv,H0,hg,hk⟩=>⟨H0,hg,r0,hv,hk⟩)
def Qb0 (C:Ctx) (p_l:Sl) (p_named:Bool) (K:Bool→Heap→Prop) (H:Heap):Prop:=
 Spec Tryz.prog C 66 [slv p_l,.bool p_named] H (fun v H2=>∃ (r0:Bool),v=.bool r0∧K r0 H2)
theorem Qb0.gh {C:Ctx} {p_l:Sl} {p_named:Bool} {K:Bool→Heap→Prop} {H:Heap} (h:Qb0 C p_l p_named (fun r0 H2=>∃ H0,Gh C H2 H0∧K r0 H0) H):Qb0 C p_l p_named K H:=
 Spec.gh (Spec.mono h fun _ H2 ⟨r0,hv,H0,hg,hk⟩=>⟨H0,hg,r0,hv,hk⟩)
def QcW (C:Ctx) (p_l:Sl) (K:Bool→Heap→Prop) (H:Heap):Prop:=
 Spec Tryz.prog C 67 [slv p_l] H (fun v H2=>∃ (r0:Bool),v=.bool r0∧K r0 H2)
theorem QcW.gh {C:Ctx} {p_l:Sl} {K:Bool→Heap→Prop} {H:Heap} (h:QcW C p_l (fun r0 H2=>∃ H0,Gh C H2 H0∧K r0 H0) H):QcW C p_l K H:=
 Spec.gh (Spec.mono h fun _ H2 ⟨r0,hv,H0,hg,hk⟩=>⟨H0,hg,r0,hv,hk⟩)
def Qw (C:Ctx) (p_s1:Sl) (p_s2:Sl) (p_eq:Value) (K:Bool→Heap→Prop) (H:Heap):Prop:=
 Spec Tryz.prog C 68 [slv p_s1,slv p_s2,p_eq] H (fun v H2=>∃ (r0:Bool),v=.bool r0∧K r0 H2)
theorem Qw.gh {C:Ctx} {p_s1:Sl} {p_s2:Sl} {p_eq:Value} {K:Bool→Heap→Prop} {H:Heap} (h:Qw C p_s1 p_s2 p_eq (fun r0 H2=>∃ H0,Gh C H2 H0∧K r0 H0) H):Qw C p_s1 p_s2 p_eq K H:=
 Spec.gh (Spec.mono h fun _ H2 ⟨r0,hv,H0,hg,hk⟩=>⟨H0,hg,r0,hv,hk⟩)
def Qeg (C:Ctx) (p_x:Qn) (p_y:Qn) (K:Bool→Heap→Prop) (H:Heap):Prop:=
 Spec Tryz.prog C 69 [.agg (Qn.c p_x).toArray,.agg (Qn.c p_y).toArray] H (fun v H2=>∃ (r0:Bool),v=.bool r0∧K r0 H2)
theorem Qeg.gh {C:Ctx} {p_x:Qn} {p_y:Qn} {K:Bool→Heap→Prop} {H:Heap} (h:Qeg C p_x p_y (fun r0 H2=>∃ H0,Gh C H2 H0∧K r0 H0) H):Qeg C p_x p_y K H:=
 Spec.gh (Spec.mono h fun _ H2 ⟨r0,hv,H0,hg,hk⟩=>⟨H0,hg,r0,hv,hk⟩)
def Qv (C:Ctx) (p_s1:Sl) (p_s2:Sl) (p_eq:Value) (K:Bool→Heap→Prop) (H:Heap):Prop:=
 Spec Tryz.prog C 70 [slv p_s1,slv p_s2,p_eq] H (fun v H2=>∃ (r0:Bool),v=.bool r0∧K r0 H2)
theorem Qv.gh {C:Ctx} {p_s1:Sl} {p_s2:Sl} {p_eq:Value} {K:Bool→Heap→Prop} {H:Heap} (h:Qv C p_s1 p_s2 p_eq (fun r0 H2=>∃ H0,Gh C H2 H0∧K r0 H0) H):Qv C p_s1 p_s2 p_eq K H:=
 Spec.gh (Spec.mono h fun _ H2 ⟨r0,hv,H0,hg,hk⟩=>⟨H0,hg,r0,hv,hk⟩)
def Qeh (C:Ctx) (p_x:Qf) (p_y:Qf) (K:Bool→Heap→Prop) (H:Heap):Prop:=
 Spec Tryz.prog C 71 [.agg (Qf.c p_x).toArray,.agg (Qf.c p_y).toArray] H (fun v H2=>∃ (r0:Bool),v=.bool r0∧K r0 H2)
theorem Qeh.gh {C:Ctx} {p_x:Qf} {p_y:Qf} {K:Bool→Heap→Prop} {H:Heap} (h:Qeh C p_x p_y (fun r0 H2=>∃ H0,Gh C H2 H0∧K r0 H0) H):Qeh C p_x p_y K H:=
 Spec.gh (Spec.mono h fun _ H2 ⟨r0,hv,H0,hg,hk⟩=>⟨H0,hg,r0,hv,hk⟩)
def QaQ (C:Ctx) (p_s1:Sl) (p_s2:Sl) (K:Bool→Heap→Prop) (H:Heap):Prop:=
 Spec Tryz.prog C 72 [slv p_s1,slv p_s2] H (fun v H2=>∃ (r0:Bool),v=.bool r0∧K r0 H2)
def Qu (C:Ctx) (p_s1:Sl) (p_s2:Sl) (p_eq:Value) (K:Bool→Heap→Prop) (H:Heap):Prop:=
 Spec Tryz.prog C 73 [slv p_s1,slv p_s2,p_eq] H (fun v H2=>∃ (r0:Bool),v=.bool r0∧K r0 H2)
theorem Qu.gh {C:Ctx} {p_s1:Sl} {p_s2:Sl} {p_eq:Value} {K:Bool→Heap→Prop} {H:Heap} (h:Qu C p_s1 p_s2 p_eq (fun r0 H2=>∃ H0,Gh C H2 H0∧K r0 H0) H):Qu C p_s1 p_s2 p_eq K H:=
 Spec.gh (Spec.mono h fun _ H2 ⟨r0,hv,H0,hg,hk⟩=>⟨H0,hg,r0,hv,hk⟩)
def QcJ (C:Ctx) (p_c:Qh) (p_d:Qh) (K:Bool→Heap→Prop) (H:Heap):Prop:=
 Spec Tryz.prog C 74 [.agg (Qh.c p_c).toArray,.agg (Qh.c p_d).toArray] H (fun v H2=>∃ (r0:Bool),v=.bool r0∧K r0 H2)
theorem QcJ.gh {C:Ctx} {p_c:Qh} {p_d:Qh} {K:Bool→Heap→Prop} {H:Heap} (h:QcJ C p_c p_d (fun r0 H2=>∃ H0,Gh C H2 H0∧K r0 H0) H):QcJ C p_c p_d K H:=
 Spec.gh (Spec.mono h fun _ H2 ⟨r0,hv,H0,hg,hk⟩=>⟨H0,hg,r0,hv,hk⟩)
def Qr (C:Ctx) (p_s1:Sl) (p_s2:Sl) (p_eq:Value) (K:Bool→Heap→Prop) (H:Heap):Prop:=
 Spec Tryz.prog C 75 [slv p_s1,slv p_s2,p_eq] H (fun v H2=>∃ (r0:Bool),v=.bool r0∧K r0 H2)
theorem Qr.gh {C:Ctx} {p_s1:Sl} {p_s2:Sl} {p_eq:Value} {K:Bool→Heap→Prop} {H:Heap} (h:Qr C p_s1 p_s2 p_eq (fun r0 H2=>∃ H0,Gh C H2 H0∧K r0 H0) H):Qr C p_s1 p_s2 p_eq K H:=
 Spec.gh (Spec.mono h fun _ H2 ⟨r0,hv,H0,hg,hk⟩=>⟨H0,hg,r0,hv,hk⟩)
def Qce (C:Ctx) (p_a:Qd) (p_b:Qd) (K:Bool→Heap→Prop) (H:Heap):Prop:=
 Spec Tryz.prog C 76 [.agg (Qd.c p_a).toArray,.agg (Qd.c p_b).toArray] H (fun v H2=>∃ (r0:Bool),v=.bool r0∧K r0 H2)
theorem Qce.gh {C:Ctx} {p_a:Qd} {p_b:Qd} {K:Bool→Heap→Prop} {H:Heap} (h:Qce C p_a p_b (fun r0 H2=>∃ H0,Gh C H2 H0∧K r0 H0) H):Qce C p_a p_b K H:=
 Spec.gh (Spec.mono h fun _ H2 ⟨r0,hv,H0,hg,hk⟩=>⟨H0,hg,r0,hv,hk⟩)
def Qx (C:Ctx) (p_s1:Sl) (p_s2:Sl) (p_eq:Value) (K:Bool→Heap→Prop) (H:Heap):Prop:=
 Spec Tryz.prog C 77 [slv p_s1,slv p_s2,p_eq] H (fun v H2=>∃ (r0:Bool),v=.bool r0∧K r0 H2)
theorem Qx.gh {C:Ctx} {p_s1:Sl} {p_s2:Sl} {p_eq:Value} {K:Bool→Heap→Prop} {H:Heap} (h:Qx C p_s1 p_s2 p_eq (fun r0 H2=>∃ H0,Gh C H2 H0∧K r0 H0) H):Qx C p_s1 p_s2 p_eq K H:=
 Spec.gh (Spec.mono h fun _ H2 ⟨r0,hv,H0,hg,hk⟩=>⟨H0,hg,r0,hv,hk⟩)
def Qei (C:Ctx) (p_x:Qi) (p_y:Qi) (K:Bool→Heap→Prop) (H:Heap):Prop:=
 Spec Tryz.prog C 78 [.agg (Qi.c p_x).toArray,.agg (Qi.c p_y).toArray] H (fun v H2=>∃ (r0:Bool),v=.bool r0∧K r0 H2)
theorem Qei.gh {C:Ctx} {p_x:Qi} {p_y:Qi} {K:Bool→Heap→Prop} {H:Heap} (h:Qei C p_x p_y (fun r0 H2=>∃ H0,Gh C H2 H0∧K r0 H0) H):Qei C p_x p_y K H:=
 Spec.gh (Spec.mono h fun _ H2 ⟨r0,hv,H0,hg,hk⟩=>⟨H0,hg,r0,hv,hk⟩)
def QA (C:Ctx) (p_s1:Sl) (p_s2:Sl) (p_eq:Value) (K:Bool→Heap→Prop) (H:Heap):Prop:=
 Spec Tryz.prog C 79 [slv p_s1,slv p_s2,p_eq] H (fun v H2=>∃ (r0:Bool),v=.bool r0∧K r0 H2)
theorem QA.gh {C:Ctx} {p_s1:Sl} {p_s2:Sl} {p_eq:Value} {K:Bool→Heap→Prop} {H:Heap} (h:QA C p_s1 p_s2 p_eq (fun r0 H2=>∃ H0,Gh C H2 H0∧K r0 H0) H):QA C p_s1 p_s2 p_eq K H:=
 Spec.gh (Spec.mono h fun _ H2 ⟨r0,hv,H0,hg,hk⟩=>⟨H0,hg,r0,hv,hk⟩)
def Qej (C:Ctx) (p_x:Qk) (p_y:Qk) (K:Bool→Heap→Prop) (H:Heap):Prop:=
 Spec Tryz.prog C 80 [.agg (Qk.c p_x).toArray,.agg (Qk.c p_y).toArray] H (fun v H2=>∃ (r0:Bool),v=.bool r0∧K r0 H2)
theorem Qej.gh {C:Ctx} {p_x:Qk} {p_y:Qk} {K:Bool→Heap→Prop} {H:Heap} (h:Qej C p_x p_y (fun r0 H2=>∃ H0,Gh C H2 H0∧K r0 H0) H):Qej C p_x p_y K H:=
 Spec.gh (Spec.mono h fun _ H2 ⟨r0,hv,H0,hg,hk⟩=>⟨H0,hg,r0,hv,hk⟩)
def Qt (C:Ctx) (p_s1:Sl) (p_s2:Sl) (p_eq:Value) (K:Bool→Heap→Prop) (H:Heap):Prop:=
 Spec Tryz.prog C 81 [slv p_s1,slv p_s2,p_eq] H (fun v H2=>∃ (r0:Bool),v=.bool r0∧K r0 H2)
theorem Qt.gh {C:Ctx} {p_s1:Sl} {p_s2:Sl} {p_eq:Value} {K:Bool→Heap→Prop} {H:Heap} (h:Qt C p_s1 p_s2 p_eq (fun r0 H2=>∃ H0,Gh C H2 H0∧K r0 H0) H):Qt C p_s1 p_s2 p_eq K H:=
 Spec.gh (Spec.mono h fun _ H2 ⟨r0,hv,H0,hg,hk⟩=>⟨H0,hg,r0,hv,hk⟩)
def QcO (C:Ctx) (p_a:Qa) (p_b:Qa) (K:Bool→Heap→Prop) (H:Heap):Prop:=
 Spec Tryz.prog C 82 [.agg (Qa.c p_a).toArray,.agg (Qa.c p_b).toArray] H (fun v H2=>∃ (r0:Bool),v=.bool r0∧K r0 H2)
theorem QcO.gh {C:Ctx} {p_a:Qa} {p_b:Qa} {K:Bool→Heap→Prop} {H:Heap} (h:QcO C p_a p_b (fun r0 H2=>∃ H0,Gh C H2 H0∧K r0 H0) H):QcO C p_a p_b K H:=
 Spec.gh (Spec.mono h fun _ H2 ⟨r0,hv,H0,hg,hk⟩=>⟨H0,hg,r0,hv,hk⟩)
def Qs (C:Ctx) (p_s1:Sl) (p_s2:Sl) (p_eq:Value) (K:Bool→Heap→Prop) (H:Heap):Prop:=
 Spec Tryz.prog C 83 [slv p_s1,slv p_s2,p_eq] H (fun v H2=>∃ (r0:Bool),v=.bool r0∧K r0 H2)
theorem Qs.gh {C:Ctx} {p_s1:Sl} {p_s2:Sl} {p_eq:Value} {K:Bool→Heap→Prop} {H:Heap} (h:Qs C p_s1 p_s2 p_eq (fun r0 H2=>∃ H0,Gh C H2 H0∧K r0 H0) H):Qs C p_s1 p_s2 p_eq K H:=
 Spec.gh (Spec.mono h fun _ H2 ⟨r0,hv,H0,hg,hk⟩=>⟨H0,hg,r0,hv,hk⟩)
def QbG (C:Ctx) (p_a:Qc) (p_b:Qc) (K:Bool→Heap→Prop) (H:Heap):Prop:=
 Spec Tryz.prog C 84 [.agg (Qc.c p_a).toArray,.agg (Qc.c p_b).toArray] H (fun v H2=>∃ (r0:Bool),v=.bool r0∧K r0 H2)
theorem QbG.gh {C:Ctx} {p_a:Qc} {p_b:Qc} {K:Bool→Heap→Prop} {H:Heap} (h:QbG C p_a p_b (fun r0 H2=>∃ H0,Gh C H2 H0∧K r0 H0) H):QbG C p_a p_b K H:=
 Spec.gh (Spec.mono h fun _ H2 ⟨r0,hv,H0,hg,hk⟩=>⟨H0,hg,r0,hv,hk⟩)
def Qy (C:Ctx) (p_s1:Sl) (p_s2:Sl) (p_eq:Value) (K:Bool→Heap→Prop) (H:Heap):Prop:=
 Spec Tryz.prog C 85 [slv p_s1,slv p_s2,p_eq] H (fun v H2=>∃ (r0:Bool),v=.bool r0∧K r0 H2)
theorem Qy.gh {C:Ctx} {p_s1:Sl} {p_s2:Sl} {p_eq:Value} {K:Bool→Heap→Prop} {H:Heap} (h:Qy C p_s1 p_s2 p_eq (fun r0 H2=>∃ H0,Gh C H2 H0∧K r0 H0) H):Qy C p_s1 p_s2 p_eq K H:=
 Spec.gh (Spec.mono h fun _ H2 ⟨r0,hv,H0,hg,hk⟩=>⟨H0,hg,r0,hv,hk⟩)
def Qek (C:Ctx) (p_x:Ql) (p_y:Ql) (K:Bool→Heap→Prop) (H:Heap):Prop:=
 Spec Tryz.prog C 86 [.agg (Ql.c p_x).toArray,.agg (Ql.c p_y).toArray] H (fun v H2=>∃ (r0:Bool),v=.bool r0∧K r0 H2)
theorem Qek.gh {C:Ctx} {p_x:Ql} {p_y:Ql} {K:Bool→Heap→Prop} {H:Heap} (h:Qek C p_x p_y (fun r0 H2=>∃ H0,Gh C H2 H0∧K r0 H0) H):Qek C p_x p_y K H:=
 Spec.gh (Spec.mono h fun _ H2 ⟨r0,hv,H0,hg,hk⟩=>⟨H0,hg,r0,hv,hk⟩)
def Qe2 (C:Ctx) (p_e:Qa) (K:Int→Heap→Prop) (H:Heap):Prop:=
 Spec Tryz.prog C 91 [.agg (Qa.c p_e).toArray] H (fun v H2=>∃ (r0:Int),v=.int .i64 r0∧K r0 H2)
theorem Qe2.gh {C:Ctx} {p_e:Qa} {K:Int→Heap→Prop} {H:Heap} (h:Qe2 C p_e (fun r0 H2=>∃ H0,Gh C H2 H0∧K r0 H0) H):Qe2 C p_e K H:=
 Spec.gh (Spec.mono h fun _ H2 ⟨r0,hv,H0,hg,hk⟩=>⟨H0,hg,r0,hv,hk⟩)
def Qdc (C:Ctx) (p_e:Qa) (K:Bool→Heap→Prop) (H:Heap):Prop:=
 Spec Tryz.prog C 92 [.agg (Qa.c p_e).toArray] H (fun v H2=>∃ (r0:Bool),v=.bool r0∧K r0 H2)
theorem Qdc.gh {C:Ctx} {p_e:Qa} {K:Bool→Heap→Prop} {H:Heap} (h:Qdc C p_e (fun r0 H2=>∃ H0,Gh C H2 H0∧K r0 H0) H):Qdc C p_e K H:=
 Spec.gh (Spec.mono h fun _ H2 ⟨r0,hv,H0,hg,hk⟩=>⟨H0,hg,r0,hv,hk⟩)
def Qaj (C:Ctx) (p_w:Option (Nat×Nat)) (p_e:Qa) (K:Heap→Prop) (H:Heap):Prop:=
 Spec Tryz.prog C 93 [pv p_w,.agg (Qa.c p_e).toArray] H (fun v H2=>v=.tuple #[]∧K H2)
def QbY (C:Ctx) (p_a:Qb) (p_b:Qb) (K:Bool→Heap→Prop) (H:Heap):Prop:=
 Spec Tryz.prog C 94 [.agg (Qb.c p_a).toArray,.agg (Qb.c p_b).toArray] H (fun v H2=>∃ (r0:Bool),v=.bool r0∧K r0 H2)
theorem QbY.gh {C:Ctx} {p_a:Qb} {p_b:Qb} {K:Bool→Heap→Prop} {H:Heap} (h:QbY C p_a p_b (fun r0 H2=>∃ H0,Gh C H2 H0∧K r0 H0) H):QbY C p_a p_b K H:=
 Spec.gh (Spec.mono h fun _ H2 ⟨r0,hv,H0,hg,hk⟩=>⟨H0,hg,r0,hv,hk⟩)
def QaW (C:Ctx) (p_l:Sl) (p_most:Int) (K:Int→Heap→Prop) (H:Heap):Prop:=
 Spec Tryz.prog C 96 [slv p_l,.int .i64 p_most] H (fun v H2=>∃ (r0:Int),v=.int .i64 r0∧K r0 H2)
theorem QaW.gh {C:Ctx} {p_l:Sl} {p_most:Int} {K:Int→Heap→Prop} {H:Heap} (h:QaW C p_l p_most (fun r0 H2=>∃ H0,Gh C H2 H0∧K r0 H0) H):QaW C p_l p_most K H:=
 Spec.gh (Spec.mono h fun _ H2 ⟨r0,hv,H0,hg,hk⟩=>⟨H0,hg,r0,hv,hk⟩)
def Ql9 (C:Ctx) (p_e:Qa) (v0:Nat×Nat) (v1:Nat×Nat) (K:Heap→Prop) (H:Heap):Prop:=
 Spec Tryz.prog C 97 [.agg (Qa.c p_e).toArray,pv (some v0),pv (some v1)] H (fun v H2=>v=.tuple #[]∧K H2)
def Qbn (C:Ctx) (p_s:Sl) (p_v:Str) (K:Bool→Heap→Prop) (H:Heap):Prop:=
 Spec Tryz.prog C 98 [slv p_s,sv p_v] H (fun v H2=>∃ (r0:Bool),v=.bool r0∧K r0 H2)
def Qeq (C:Ctx) (p_w:Option (Nat×Nat)) (p_is:Bool) (K:Heap→Prop) (H:Heap):Prop:=
 Spec Tryz.prog C 99 [pv p_w,.bool p_is] H (fun v H2=>v=.tuple #[]∧K H2)
def QdF (C:Ctx) (p_w:Option (Nat×Nat)) (p_l:Sl) (p_write:Value) (K:Heap→Prop) (H:Heap):Prop:=
 Spec Tryz.prog C 100 [pv p_w,slv p_l,p_write] H (fun v H2=>v=.tuple #[]∧K H2)
def Qfp (C:Ctx) (p_s:Str) (v0:Nat×Nat) (K:Heap→Prop) (H:Heap):Prop:=
 Spec Tryz.prog C 101 [sv p_s,pv (some v0)] H (fun v H2=>v=.tuple #[]∧K H2)
def Qde (C:Ctx) (p_w:Option (Nat×Nat)) (p_l:Sl) (p_between:Str) (p_write:Value) (K:Heap→Prop) (H:Heap):Prop:=
 Spec Tryz.prog C 102 [pv p_w,slv p_l,sv p_between,p_write] H (fun v H2=>v=.tuple #[]∧K H2)
def Qfq (C:Ctx) (p_c:Qh) (v0:Nat×Nat) (K:Heap→Prop) (H:Heap):Prop:=
 Spec Tryz.prog C 103 [.agg (Qh.c p_c).toArray,pv (some v0)] H (fun v H2=>v=.tuple #[]∧K H2)
def Qai (C:Ctx) (p_w:Option (Nat×Nat)) (p_l:Sl) (p_write:Value) (K:Heap→Prop) (H:Heap):Prop:=
 Spec Tryz.prog C 104 [pv p_w,slv p_l,p_write] H (fun v H2=>v=.tuple #[]∧K H2)
def QfH (C:Ctx) (p_w:Option (Nat×Nat)) (p_f:Qd) (K:Heap→Prop) (H:Heap):Prop:=
 Spec Tryz.prog C 105 [pv p_w,.agg (Qd.c p_f).toArray] H (fun v H2=>v=.tuple #[]∧K H2)
def Qo (C:Ctx) (p_b:Option (Nat×Nat)) (p_c:Int) (K:Value→Heap→Prop) (H:Heap):Prop:=
 Spec Tryz.prog C 106 [pv p_b,.int .u8 p_c] H (fun v H2=>∃ (r0:Value),v=r0∧K r0 H2)
theorem Qo.gh {C:Ctx} {p_b:Option (Nat×Nat)} {p_c:Int} {K:Value→Heap→Prop} {H:Heap} (h:Qo C p_b p_c (fun r0 H2=>∃ H0,Gh C H2 H0∧K r0 H0) H):Qo C p_b p_c K H:=
 Spec.gh (Spec.mono h fun _ H2 ⟨r0,hv,H0,hg,hk⟩=>⟨H0,hg,r0,hv,hk⟩)
def QF (C:Ctx) (p_w:Option (Nat×Nat)) (p_l:Sl) (p_write:Value) (K:Heap→Prop) (H:Heap):Prop:=
 Spec Tryz.prog C 107 [pv p_w,slv p_l,p_write] H (fun v H2=>v=.tuple #[]∧K H2)
def QeE (C:Ctx) (p_e:Qa) (v0:Nat×Nat) (v1:Nat×Nat) (v2:Nat×Nat) (K:Heap→Prop) (H:Heap):Prop:=
 Spec Tryz.prog C 108 [.agg (Qa.c p_e).toArray,pv (some v0),pv (some v1),pv (some v2)] H (fun v H2=>v=.tuple #[]∧K H2)
def Qa0 (C:Ctx) (p_b:Option (Nat×Nat)) (K:Heap→Prop) (H:Heap):Prop:=
 Spec Tryz.prog C 109 [pv p_b] H (fun v H2=>v=.tuple #[]∧K H2)
def Qba (C:Ctx) (p_t:Qe) (K:Str→Heap→Prop) (H:Heap):Prop:=
 Spec Tryz.prog C 110 [.agg (Qe.c p_t).toArray] H (fun v H2=>∃ (r0:Str),v=sv r0∧K r0 H2)
theorem Qba.gh {C:Ctx} {p_t:Qe} {K:Str→Heap→Prop} {H:Heap} (h:Qba C p_t (fun r0 H2=>∃ H0,Gh C H2 H0∧K r0 H0) H):Qba C p_t K H:=
 Spec.gh (Spec.mono h fun _ H2 ⟨r0,hv,H0,hg,hk⟩=>⟨H0,hg,r0,hv,hk⟩)
def QD (C:Ctx) (p_e:Qa) (K:Str→Heap→Prop) (H:Heap):Prop:=
 Spec Tryz.prog C 111 [.agg (Qa.c p_e).toArray] H (fun v H2=>∃ (r0:Str),v=sv r0∧K r0 H2)
theorem QD.gh {C:Ctx} {p_e:Qa} {K:Str→Heap→Prop} {H:Heap} (h:QD C p_e (fun r0 H2=>∃ H0,Gh C H2 H0∧K r0 H0) H):QD C p_e K H:=
 Spec.gh (Spec.mono h fun _ H2 ⟨r0,hv,H0,hg,hk⟩=>⟨H0,hg,r0,hv,hk⟩)
def Qby (C:Ctx) (p_l:Sl) (K:Str→Heap→Prop) (H:Heap):Prop:=
 Spec Tryz.prog C 112 [slv p_l] H (fun v H2=>∃ (r0:Str),v=sv r0∧K r0 H2)
theorem Qby.gh {C:Ctx} {p_l:Sl} {K:Str→Heap→Prop} {H:Heap} (h:Qby C p_l (fun r0 H2=>∃ H0,Gh C H2 H0∧K r0 H0) H):Qby C p_l K H:=
 Spec.gh (Spec.mono h fun _ H2 ⟨r0,hv,H0,hg,hk⟩=>⟨H0,hg,r0,hv,hk⟩)
def QX (C:Ctx) (p_l:Sl) (p_depth:Value) (K:Int→Heap→Prop) (H:Heap):Prop:=
 Spec Tryz.prog C 113 [slv p_l,p_depth] H (fun v H2=>∃ (r0:Int),v=.int .i64 r0∧K r0 H2)
theorem QX.gh {C:Ctx} {p_l:Sl} {p_depth:Value} {K:Int→Heap→Prop} {H:Heap} (h:QX C p_l p_depth (fun r0 H2=>∃ H0,Gh C H2 H0∧K r0 H0) H):QX C p_l p_depth K H:=
 Spec.gh (Spec.mono h fun _ H2 ⟨r0,hv,H0,hg,hk⟩=>⟨H0,hg,r0,hv,hk⟩)
def Qel (C:Ctx) (p_t:Qf) (K:Int→Heap→Prop) (H:Heap):Prop:=
 Spec Tryz.prog C 114 [.agg (Qf.c p_t).toArray] H (fun v H2=>∃ (r0:Int),v=.int .i64 r0∧K r0 H2)
theorem Qel.gh {C:Ctx} {p_t:Qf} {K:Int→Heap→Prop} {H:Heap} (h:Qel C p_t (fun r0 H2=>∃ H0,Gh C H2 H0∧K r0 H0) H):Qel C p_t K H:=
 Spec.gh (Spec.mono h fun _ H2 ⟨r0,hv,H0,hg,hk⟩=>⟨H0,hg,r0,hv,hk⟩)
def QW (C:Ctx) (p_l:Sl) (p_depth:Value) (K:Int→Heap→Prop) (H:Heap):Prop:=
 Spec Tryz.prog C 115 [slv p_l,p_depth] H (fun v H2=>∃ (r0:Int),v=.int .i64 r0∧K r0 H2)
theorem QW.gh {C:Ctx} {p_l:Sl} {p_depth:Value} {K:Int→Heap→Prop} {H:Heap} (h:QW C p_l p_depth (fun r0 H2=>∃ H0,Gh C H2 H0∧K r0 H0) H):QW C p_l p_depth K H:=
 Spec.gh (Spec.mono h fun _ H2 ⟨r0,hv,H0,hg,hk⟩=>⟨H0,hg,r0,hv,hk⟩)
def QcL (C:Ctx) (p_c:Qh) (K:Int→Heap→Prop) (H:Heap):Prop:=
 Spec Tryz.prog C 116 [.agg (Qh.c p_c).toArray] H (fun v H2=>∃ (r0:Int),v=.int .i64 r0∧K r0 H2)
theorem QcL.gh {C:Ctx} {p_c:Qh} {K:Int→Heap→Prop} {H:Heap} (h:QcL C p_c (fun r0 H2=>∃ H0,Gh C H2 H0∧K r0 H0) H):QcL C p_c K H:=
 Spec.gh (Spec.mono h fun _ H2 ⟨r0,hv,H0,hg,hk⟩=>⟨H0,hg,r0,hv,hk⟩)
def QE (C:Ctx) (p_l:Sl) (p_depth:Value) (K:Int→Heap→Prop) (H:Heap):Prop:=
 Spec Tryz.prog C 117 [slv p_l,p_depth] H (fun v H2=>∃ (r0:Int),v=.int .i64 r0∧K r0 H2)
theorem QE.gh {C:Ctx} {p_l:Sl} {p_depth:Value} {K:Int→Heap→Prop} {H:Heap} (h:QE C p_l p_depth (fun r0 H2=>∃ H0,Gh C H2 H0∧K r0 H0) H):QE C p_l p_depth K H:=
 Spec.gh (Spec.mono h fun _ H2 ⟨r0,hv,H0,hg,hk⟩=>⟨H0,hg,r0,hv,hk⟩)
def Qb5 (C:Ctx) (p_f:Qd) (K:Int→Heap→Prop) (H:Heap):Prop:=
 Spec Tryz.prog C 118 [.agg (Qd.c p_f).toArray] H (fun v H2=>∃ (r0:Int),v=.int .i64 r0∧K r0 H2)
theorem Qb5.gh {C:Ctx} {p_f:Qd} {K:Int→Heap→Prop} {H:Heap} (h:Qb5 C p_f (fun r0 H2=>∃ H0,Gh C H2 H0∧K r0 H0) H):Qb5 C p_f K H:=
 Spec.gh (Spec.mono h fun _ H2 ⟨r0,hv,H0,hg,hk⟩=>⟨H0,hg,r0,hv,hk⟩)
def Q1 (C:Ctx) (p_l:Sl) (p_depth:Value) (K:Int→Heap→Prop) (H:Heap):Prop:=
 Spec Tryz.prog C 119 [slv p_l,p_depth] H (fun v H2=>∃ (r0:Int),v=.int .i64 r0∧K r0 H2)
theorem Q1.gh {C:Ctx} {p_l:Sl} {p_depth:Value} {K:Int→Heap→Prop} {H:Heap} (h:Q1 C p_l p_depth (fun r0 H2=>∃ H0,Gh C H2 H0∧K r0 H0) H):Q1 C p_l p_depth K H:=
 Spec.gh (Spec.mono h fun _ H2 ⟨r0,hv,H0,hg,hk⟩=>⟨H0,hg,r0,hv,hk⟩)
def Qem (C:Ctx) (p_x:Qi) (K:Int→Heap→Prop) (H:Heap):Prop:=
 Spec Tryz.prog C 120 [.agg (Qi.c p_x).toArray] H (fun v H2=>∃ (r0:Int),v=.int .i64 r0∧K r0 H2)
theorem Qem.gh {C:Ctx} {p_x:Qi} {K:Int→Heap→Prop} {H:Heap} (h:Qem C p_x (fun r0 H2=>∃ H0,Gh C H2 H0∧K r0 H0) H):Qem C p_x K H:=
 Spec.gh (Spec.mono h fun _ H2 ⟨r0,hv,H0,hg,hk⟩=>⟨H0,hg,r0,hv,hk⟩)
def Q8 (C:Ctx) (p_l:Sl) (p_depth:Value) (K:Int→Heap→Prop) (H:Heap):Prop:=
 Spec Tryz.prog C 121 [slv p_l,p_depth] H (fun v H2=>∃ (r0:Int),v=.int .i64 r0∧K r0 H2)
theorem Q8.gh {C:Ctx} {p_l:Sl} {p_depth:Value} {K:Int→Heap→Prop} {H:Heap} (h:Q8 C p_l p_depth (fun r0 H2=>∃ H0,Gh C H2 H0∧K r0 H0) H):Q8 C p_l p_depth K H:=
 Spec.gh (Spec.mono h fun _ H2 ⟨r0,hv,H0,hg,hk⟩=>⟨H0,hg,r0,hv,hk⟩)
def Qen (C:Ctx) (p_x:Qk) (K:Int→Heap→Prop) (H:Heap):Prop:=
 Spec Tryz.prog C 122 [.agg (Qk.c p_x).toArray] H (fun v H2=>∃ (r0:Int),v=.int .i64 r0∧K r0 H2)
theorem Qen.gh {C:Ctx} {p_x:Qk} {K:Int→Heap→Prop} {H:Heap} (h:Qen C p_x (fun r0 H2=>∃ H0,Gh C H2 H0∧K r0 H0) H):Qen C p_x K H:=
 Spec.gh (Spec.mono h fun _ H2 ⟨r0,hv,H0,hg,hk⟩=>⟨H0,hg,r0,hv,hk⟩)
def QJ (C:Ctx) (p_l:Sl) (p_depth:Value) (K:Int→Heap→Prop) (H:Heap):Prop:=
 Spec Tryz.prog C 123 [slv p_l,p_depth] H (fun v H2=>∃ (r0:Int),v=.int .i64 r0∧K r0 H2)
theorem QJ.gh {C:Ctx} {p_l:Sl} {p_depth:Value} {K:Int→Heap→Prop} {H:Heap} (h:QJ C p_l p_depth (fun r0 H2=>∃ H0,Gh C H2 H0∧K r0 H0) H):QJ C p_l p_depth K H:=
 Spec.gh (Spec.mono h fun _ H2 ⟨r0,hv,H0,hg,hk⟩=>⟨H0,hg,r0,hv,hk⟩)
def QG (C:Ctx) (p_l:Sl) (p_depth:Value) (K:Int→Heap→Prop) (H:Heap):Prop:=
 Spec Tryz.prog C 124 [slv p_l,p_depth] H (fun v H2=>∃ (r0:Int),v=.int .i64 r0∧K r0 H2)
theorem QG.gh {C:Ctx} {p_l:Sl} {p_depth:Value} {K:Int→Heap→Prop} {H:Heap} (h:QG C p_l p_depth (fun r0 H2=>∃ H0,Gh C H2 H0∧K r0 H0) H):QG C p_l p_depth K H:=
 Spec.gh (Spec.mono h fun _ H2 ⟨r0,hv,H0,hg,hk⟩=>⟨H0,hg,r0,hv,hk⟩)
def Qbo (C:Ctx) (p_x:Qc) (K:Int→Heap→Prop) (H:Heap):Prop:=
 Spec Tryz.prog C 125 [.agg (Qc.c p_x).toArray] H (fun v H2=>∃ (r0:Int),v=.int .i64 r0∧K r0 H2)
theorem Qbo.gh {C:Ctx} {p_x:Qc} {K:Int→Heap→Prop} {H:Heap} (h:Qbo C p_x (fun r0 H2=>∃ H0,Gh C H2 H0∧K r0 H0) H):Qbo C p_x K H:=
 Spec.gh (Spec.mono h fun _ H2 ⟨r0,hv,H0,hg,hk⟩=>⟨H0,hg,r0,hv,hk⟩)
def Q3 (C:Ctx) (p_l:Sl) (p_depth:Value) (K:Int→Heap→Prop) (H:Heap):Prop:=
 Spec Tryz.prog C 126 [slv p_l,p_depth] H (fun v H2=>∃ (r0:Int),v=.int .i64 r0∧K r0 H2)
theorem Q3.gh {C:Ctx} {p_l:Sl} {p_depth:Value} {K:Int→Heap→Prop} {H:Heap} (h:Q3 C p_l p_depth (fun r0 H2=>∃ H0,Gh C H2 H0∧K r0 H0) H):Q3 C p_l p_depth K H:=
 Spec.gh (Spec.mono h fun _ H2 ⟨r0,hv,H0,hg,hk⟩=>⟨H0,hg,r0,hv,hk⟩)
def Qeo (C:Ctx) (p_x:Ql) (K:Int→Heap→Prop) (H:Heap):Prop:=
 Spec Tryz.prog C 127 [.agg (Ql.c p_x).toArray] H (fun v H2=>∃ (r0:Int),v=.int .i64 r0∧K r0 H2)
theorem Qeo.gh {C:Ctx} {p_x:Ql} {K:Int→Heap→Prop} {H:Heap} (h:Qeo C p_x (fun r0 H2=>∃ H0,Gh C H2 H0∧K r0 H0) H):Qeo C p_x K H:=
 Spec.gh (Spec.mono h fun _ H2 ⟨r0,hv,H0,hg,hk⟩=>⟨H0,hg,r0,hv,hk⟩)
def QiY (C:Ctx) (p_s:Str) (K:Bool→Heap→Prop) (H:Heap):Prop:=
 Spec Tryz.prog C 128 [sv p_s] H (fun v H2=>∃ (r0:Bool),v=.bool r0∧K r0 H2)
def Qhc (C:Ctx) (p_s:Str) (p_substr:Str) (K:Bool→Heap→Prop) (H:Heap):Prop:=
 Spec Tryz.prog C 129 [sv p_s,sv p_substr] H (fun v H2=>∃ (r0:Bool),v=.bool r0∧K r0 H2)
def QaY (C:Ctx) (p_s:Sl) (p_f:Value) (K:Bool→Heap→Prop) (H:Heap):Prop:=
 Spec Tryz.prog C 130 [slv p_s,p_f] H (fun v H2=>∃ (r0:Bool),v=.bool r0∧K r0 H2)
def QiW (C:Ctx) (p_x:Qn) (v0:Nat×Nat) (K:Bool→Heap→Prop) (H:Heap):Prop:=
 Spec Tryz.prog C 131 [.agg (Qn.c p_x).toArray,pv (some v0)] H (fun v H2=>∃ (r0:Bool),v=.bool r0∧K r0 H2)
def QaN (C:Ctx) (p_s:Sl) (p_f:Value) (K:Bool→Heap→Prop) (H:Heap):Prop:=
 Spec Tryz.prog C 132 [slv p_s,p_f] H (fun v H2=>∃ (r0:Bool),v=.bool r0∧K r0 H2)
def Qib (C:Ctx) (p_x:Qf) (v0:Nat×Nat) (K:Bool→Heap→Prop) (H:Heap):Prop:=
 Spec Tryz.prog C 133 [.agg (Qf.c p_x).toArray,pv (some v0)] H (fun v H2=>∃ (r0:Bool),v=.bool r0∧K r0 H2)
def QaO (C:Ctx) (p_l:Sl) (p_is:Value) (K:Bool→Heap→Prop) (H:Heap):Prop:=
 Spec Tryz.prog C 134 [slv p_l,p_is] H (fun v H2=>∃ (r0:Bool),v=.bool r0∧K r0 H2)
theorem QaO.gh {C:Ctx} {p_l:Sl} {p_is:Value} {K:Bool→Heap→Prop} {H:Heap} (h:QaO C p_l p_is (fun r0 H2=>∃ H0,Gh C H2 H0∧K r0 H0) H):QaO C p_l p_is K H:=
 Spec.gh (Spec.mono h fun _ H2 ⟨r0,hv,H0,hg,hk⟩=>⟨H0,hg,r0,hv,hk⟩)
def QjZ (C:Ctx) (p_s:Str) (K:Bool→Heap→Prop) (H:Heap):Prop:=
 Spec Tryz.prog C 135 [sv p_s] H (fun v H2=>∃ (r0:Bool),v=.bool r0∧K r0 H2)
def Qag (C:Ctx) (p_l:Sl) (p_is:Value) (K:Bool→Heap→Prop) (H:Heap):Prop:=
 Spec Tryz.prog C 136 [slv p_l,p_is] H (fun v H2=>∃ (r0:Bool),v=.bool r0∧K r0 H2)
theorem Qag.gh {C:Ctx} {p_l:Sl} {p_is:Value} {K:Bool→Heap→Prop} {H:Heap} (h:Qag C p_l p_is (fun r0 H2=>∃ H0,Gh C H2 H0∧K r0 H0) H):Qag C p_l p_is K H:=
 Spec.gh (Spec.mono h fun _ H2 ⟨r0,hv,H0,hg,hk⟩=>⟨H0,hg,r0,hv,hk⟩)
def Qcf (C:Ctx) (p_c:Qh) (K:Bool→Heap→Prop) (H:Heap):Prop:=
 Spec Tryz.prog C 137 [.agg (Qh.c p_c).toArray] H (fun v H2=>∃ (r0:Bool),v=.bool r0∧K r0 H2)
theorem Qcf.gh {C:Ctx} {p_c:Qh} {K:Bool→Heap→Prop} {H:Heap} (h:Qcf C p_c (fun r0 H2=>∃ H0,Gh C H2 H0∧K r0 H0) H):Qcf C p_c K H:=
 Spec.gh (Spec.mono h fun _ H2 ⟨r0,hv,H0,hg,hk⟩=>⟨H0,hg,r0,hv,hk⟩)
def QaZ (C:Ctx) (p_s:Sl) (p_f:Value) (K:Bool→Heap→Prop) (H:Heap):Prop:=
 Spec Tryz.prog C 138 [slv p_s,p_f] H (fun v H2=>∃ (r0:Bool),v=.bool r0∧K r0 H2)
def QiX (C:Ctx) (p_x:Qi) (v0:Nat×Nat) (K:Bool→Heap→Prop) (H:Heap):Prop:=
 Spec Tryz.prog C 139 [.agg (Qi.c p_x).toArray,pv (some v0)] H (fun v H2=>∃ (r0:Bool),v=.bool r0∧K r0 H2)
def Q6 (C:Ctx) (p_l:Sl) (p_is:Value) (K:Bool→Heap→Prop) (H:Heap):Prop:=
 Spec Tryz.prog C 140 [slv p_l,p_is] H (fun v H2=>∃ (r0:Bool),v=.bool r0∧K r0 H2)
theorem Q6.gh {C:Ctx} {p_l:Sl} {p_is:Value} {K:Bool→Heap→Prop} {H:Heap} (h:Q6 C p_l p_is (fun r0 H2=>∃ H0,Gh C H2 H0∧K r0 H0) H):Q6 C p_l p_is K H:=
 Spec.gh (Spec.mono h fun _ H2 ⟨r0,hv,H0,hg,hk⟩=>⟨H0,hg,r0,hv,hk⟩)
def QcM (C:Ctx) (p_f:Qd) (v0:Nat×Nat) (K:Bool→Heap→Prop) (H:Heap):Prop:=
 Spec Tryz.prog C 141 [.agg (Qd.c p_f).toArray,pv (some v0)] H (fun v H2=>∃ (r0:Bool),v=.bool r0∧K r0 H2)
theorem QcM.gh {C:Ctx} {p_f:Qd} {v0:Nat×Nat} {K:Bool→Heap→Prop} {H:Heap} (h:QcM C p_f v0 (fun r0 H2=>∃ H0,Gh C H2 H0∧K r0 H0) H):QcM C p_f v0 K H:=
 Spec.gh (Spec.mono h fun _ H2 ⟨r0,hv,H0,hg,hk⟩=>⟨H0,hg,r0,hv,hk⟩)
def Qd6 (C:Ctx) (p_t:Qe) (K:Bool→Heap→Prop) (H:Heap):Prop:=
 Spec Tryz.prog C 142 [.agg (Qe.c p_t).toArray] H (fun v H2=>∃ (r0:Bool),v=.bool r0∧K r0 H2)
theorem Qd6.gh {C:Ctx} {p_t:Qe} {K:Bool→Heap→Prop} {H:Heap} (h:Qd6 C p_t (fun r0 H2=>∃ H0,Gh C H2 H0∧K r0 H0) H):Qd6 C p_t K H:=
 Spec.gh (Spec.mono h fun _ H2 ⟨r0,hv,H0,hg,hk⟩=>⟨H0,hg,r0,hv,hk⟩)
def QbA (C:Ctx) (p_s:Sl) (p_f:Value) (K:Bool→Heap→Prop) (H:Heap):Prop:=
 Spec Tryz.prog C 143 [slv p_s,p_f] H (fun v H2=>∃ (r0:Bool),v=.bool r0∧K r0 H2)
def QjW (C:Ctx) (p_x:Qk) (v0:Nat×Nat) (K:Bool→Heap→Prop) (H:Heap):Prop:=
 Spec Tryz.prog C 144 [.agg (Qk.c p_x).toArray,pv (some v0)] H (fun v H2=>∃ (r0:Bool),v=.bool r0∧K r0 H2)
def QfN (C:Ctx) (p_s:Str) (K:Bool→Heap→Prop) (H:Heap):Prop:=
 Spec Tryz.prog C 145 [sv p_s] H (fun v H2=>∃ (r0:Bool),v=.bool r0∧K r0 H2)
def QO (C:Ctx) (p_l:Sl) (p_is:Value) (K:Bool→Heap→Prop) (H:Heap):Prop:=
 Spec Tryz.prog C 146 [slv p_l,p_is] H (fun v H2=>∃ (r0:Bool),v=.bool r0∧K r0 H2)
theorem QO.gh {C:Ctx} {p_l:Sl} {p_is:Value} {K:Bool→Heap→Prop} {H:Heap} (h:QO C p_l p_is (fun r0 H2=>∃ H0,Gh C H2 H0∧K r0 H0) H):QO C p_l p_is K H:=
 Spec.gh (Spec.mono h fun _ H2 ⟨r0,hv,H0,hg,hk⟩=>⟨H0,hg,r0,hv,hk⟩)
def Qma (C:Ctx) (p_s:Str) (K:Bool→Heap→Prop) (H:Heap):Prop:=
 Spec Tryz.prog C 147 [sv p_s] H (fun v H2=>∃ (r0:Bool),v=.bool r0∧K r0 H2)
def Qbi (C:Ctx) (p_s:Sl) (p_f:Value) (K:Bool→Heap→Prop) (H:Heap):Prop:=
 Spec Tryz.prog C 148 [slv p_s,p_f] H (fun v H2=>∃ (r0:Bool),v=.bool r0∧K r0 H2)
def QjA (C:Ctx) (p_x:Ql) (v0:Nat×Nat) (K:Bool→Heap→Prop) (H:Heap):Prop:=
 Spec Tryz.prog C 149 [.agg (Ql.c p_x).toArray,pv (some v0)] H (fun v H2=>∃ (r0:Bool),v=.bool r0∧K r0 H2)
def QaM (C:Ctx) (p_s:Sl) (p_f:Value) (K:Bool→Heap→Prop) (H:Heap):Prop:=
 Spec Tryz.prog C 150 [slv p_s,p_f] H (fun v H2=>∃ (r0:Bool),v=.bool r0∧K r0 H2)
def Qia (C:Ctx) (p_x:Qc) (v0:Nat×Nat) (K:Bool→Heap→Prop) (H:Heap):Prop:=
 Spec Tryz.prog C 151 [.agg (Qc.c p_x).toArray,pv (some v0)] H (fun v H2=>∃ (r0:Bool),v=.bool r0∧K r0 H2)
def QdA (C:Ctx) (p_e:Qa) (K:Bool→Heap→Prop) (H:Heap):Prop:=
 Spec Tryz.prog C 152 [.agg (Qa.c p_e).toArray] H (fun v H2=>∃ (r0:Bool),v=.bool r0∧K r0 H2)
theorem QdA.gh {C:Ctx} {p_e:Qa} {K:Bool→Heap→Prop} {H:Heap} (h:QdA C p_e (fun r0 H2=>∃ H0,Gh C H2 H0∧K r0 H0) H):QdA C p_e K H:=
 Spec.gh (Spec.mono h fun _ H2 ⟨r0,hv,H0,hg,hk⟩=>⟨H0,hg,r0,hv,hk⟩)
def Qfn (C:Ctx) (p_s:Str) (K:Bool→Heap→Prop) (H:Heap):Prop:=
 Spec Tryz.prog C 153 [sv p_s] H (fun v H2=>∃ (r0:Bool),v=.bool r0∧K r0 H2)
def Qap (C:Ctx) (p_t:Qe) (K:Int→Heap→Prop) (H:Heap):Prop:=
 Spec Tryz.prog C 154 [.agg (Qe.c p_t).toArray] H (fun v H2=>∃ (r0:Int),v=.int .i64 r0∧K r0 H2)
theorem Qap.gh {C:Ctx} {p_t:Qe} {K:Int→Heap→Prop} {H:Heap} (h:Qap C p_t (fun r0 H2=>∃ H0,Gh C H2 H0∧K r0 H0) H):Qap C p_t K H:=
 Spec.gh (Spec.mono h fun _ H2 ⟨r0,hv,H0,hg,hk⟩=>⟨H0,hg,r0,hv,hk⟩)
def Qbb (C:Ctx) (p_l:Sl) (K:Int→Heap→Prop) (H:Heap):Prop:=
 Spec Tryz.prog C 155 [slv p_l] H (fun v H2=>∃ (r0:Int),v=.int .i64 r0∧K r0 H2)
theorem Qbb.gh {C:Ctx} {p_l:Sl} {K:Int→Heap→Prop} {H:Heap} (h:Qbb C p_l (fun r0 H2=>∃ H0,Gh C H2 H0∧K r0 H0) H):Qbb C p_l K H:=
 Spec.gh (Spec.mono h fun _ H2 ⟨r0,hv,H0,hg,hk⟩=>⟨H0,hg,r0,hv,hk⟩)
def QbV (C:Ctx) (p_e:Qa) (K:Int→Heap→Prop) (H:Heap):Prop:=
 Spec Tryz.prog C 156 [.agg (Qa.c p_e).toArray] H (fun v H2=>∃ (r0:Int),v=.int .i64 r0∧K r0 H2)
theorem QbV.gh {C:Ctx} {p_e:Qa} {K:Int→Heap→Prop} {H:Heap} (h:QbV C p_e (fun r0 H2=>∃ H0,Gh C H2 H0∧K r0 H0) H):QbV C p_e K H:=
 Spec.gh (Spec.mono h fun _ H2 ⟨r0,hv,H0,hg,hk⟩=>⟨H0,hg,r0,hv,hk⟩)
def Qd1 (C:Ctx) (p_s:Str) (K:Bool→Heap→Prop) (H:Heap):Prop:=
 Spec Tryz.prog C 157 [sv p_s] H (fun v H2=>∃ (r0:Bool),v=.bool r0∧K r0 H2)
def QbK (C:Ctx) (p_s:Str) (K:Bool→Heap→Prop) (H:Heap):Prop:=
 Spec Tryz.prog C 158 [sv p_s] H (fun v H2=>∃ (r0:Bool),v=.bool r0∧K r0 H2)
theorem QbK.gh {C:Ctx} {p_s:Str} {K:Bool→Heap→Prop} {H:Heap} (h:QbK C p_s (fun r0 H2=>∃ H0,Gh C H2 H0∧K r0 H0) H):QbK C p_s K H:=
 Spec.gh (Spec.mono h fun _ H2 ⟨r0,hv,H0,hg,hk⟩=>⟨H0,hg,r0,hv,hk⟩)
def Qgz (C:Ctx) (p_s:Str) (K:Bool→Heap→Prop) (H:Heap):Prop:=
 Spec Tryz.prog C 159 [sv p_s] H (fun v H2=>∃ (r0:Bool),v=.bool r0∧K r0 H2)
def Qe1 (C:Ctx) (p_s:Str) (K:Bool→Heap→Prop) (H:Heap):Prop:=
 Spec Tryz.prog C 160 [sv p_s] H (fun v H2=>∃ (r0:Bool),v=.bool r0∧K r0 H2)
def QbZ (C:Ctx) (p_e:Qa) (p_pattern:Bool) (K:Bool→Heap→Prop) (H:Heap):Prop:=
 Spec Tryz.prog C 161 [.agg (Qa.c p_e).toArray,.bool p_pattern] H (fun v H2=>∃ (r0:Bool),v=.bool r0∧K r0 H2)
theorem QbZ.gh {C:Ctx} {p_e:Qa} {p_pattern:Bool} {K:Bool→Heap→Prop} {H:Heap} (h:QbZ C p_e p_pattern (fun r0 H2=>∃ H0,Gh C H2 H0∧K r0 H0) H):QbZ C p_e p_pattern K H:=
 Spec.gh (Spec.mono h fun _ H2 ⟨r0,hv,H0,hg,hk⟩=>⟨H0,hg,r0,hv,hk⟩)
def QcX (C:Ctx) (p_t:Qe) (K:Bool→Heap→Prop) (H:Heap):Prop:=
 Spec Tryz.prog C 162 [.agg (Qe.c p_t).toArray] H (fun v H2=>∃ (r0:Bool),v=.bool r0∧K r0 H2)
theorem QcX.gh {C:Ctx} {p_t:Qe} {K:Bool→Heap→Prop} {H:Heap} (h:QcX C p_t (fun r0 H2=>∃ H0,Gh C H2 H0∧K r0 H0) H):QcX C p_t K H:=
 Spec.gh (Spec.mono h fun _ H2 ⟨r0,hv,H0,hg,hk⟩=>⟨H0,hg,r0,hv,hk⟩)
def QeU (C:Ctx) (p_s:Str) (K:Bool→Heap→Prop) (H:Heap):Prop:=
 Spec Tryz.prog C 163 [sv p_s] H (fun v H2=>∃ (r0:Bool),v=.bool r0∧K r0 H2)
def Qb8 (C:Ctx) (p_a:Qe) (p_b:Qe) (K:Bool→Heap→Prop) (H:Heap):Prop:=
 Spec Tryz.prog C 164 [.agg (Qe.c p_a).toArray,.agg (Qe.c p_b).toArray] H (fun v H2=>∃ (r0:Bool),v=.bool r0∧K r0 H2)
theorem Qb8.gh {C:Ctx} {p_a:Qe} {p_b:Qe} {K:Bool→Heap→Prop} {H:Heap} (h:Qb8 C p_a p_b (fun r0 H2=>∃ H0,Gh C H2 H0∧K r0 H0) H):Qb8 C p_a p_b K H:=
 Spec.gh (Spec.mono h fun _ H2 ⟨r0,hv,H0,hg,hk⟩=>⟨H0,hg,r0,hv,hk⟩)
def QbN (C:Ctx) (p_a:Qb) (p_b:Qb) (K:Bool→Heap→Prop) (H:Heap):Prop:=
 Spec Tryz.prog C 165 [.agg (Qb.c p_a).toArray,.agg (Qb.c p_b).toArray] H (fun v H2=>∃ (r0:Bool),v=.bool r0∧K r0 H2)
theorem QbN.gh {C:Ctx} {p_a:Qb} {p_b:Qb} {K:Bool→Heap→Prop} {H:Heap} (h:QbN C p_a p_b (fun r0 H2=>∃ H0,Gh C H2 H0∧K r0 H0) H):QbN C p_a p_b K H:=
 Spec.gh (Spec.mono h fun _ H2 ⟨r0,hv,H0,hg,hk⟩=>⟨H0,hg,r0,hv,hk⟩)
def Qdd (C:Ctx) (p_e:Qa) (p_pattern:Bool) (K:Bool→Heap→Prop) (H:Heap):Prop:=
 Spec Tryz.prog C 168 [.agg (Qa.c p_e).toArray,.bool p_pattern] H (fun v H2=>∃ (r0:Bool),v=.bool r0∧K r0 H2)
theorem Qdd.gh {C:Ctx} {p_e:Qa} {p_pattern:Bool} {K:Bool→Heap→Prop} {H:Heap} (h:Qdd C p_e p_pattern (fun r0 H2=>∃ H0,Gh C H2 H0∧K r0 H0) H):Qdd C p_e p_pattern K H:=
 Spec.gh (Spec.mono h fun _ H2 ⟨r0,hv,H0,hg,hk⟩=>⟨H0,hg,r0,hv,hk⟩)
def Qj0 (C:Ctx) (p_v:Qb) (K:Str→Heap→Prop) (H:Heap):Prop:=
 Spec Tryz.prog C 169 [.agg (Qb.c p_v).toArray] H (fun v H2=>∃ (r0:Str),v=sv r0∧K r0 H2)
def Qfo (C:Ctx) (p_w:Option (Nat×Nat)) (p_e:Qa) (K:Heap→Prop) (H:Heap):Prop:=
 Spec Tryz.prog C 170 [pv p_w,.agg (Qa.c p_e).toArray] H (fun v H2=>v=.tuple #[]∧K H2)
def QeY (C:Ctx) (p_w:Option (Nat×Nat)) (p_e:Qa) (K:Heap→Prop) (H:Heap):Prop:=
 Spec Tryz.prog C 171 [pv p_w,.agg (Qa.c p_e).toArray] H (fun v H2=>v=.tuple #[]∧K H2)
def QgJ (C:Ctx) (p_a:Sl) (p_b:Sl) (K:Bool→Heap→Prop) (H:Heap):Prop:=
 Spec Tryz.prog C 172 [slv p_a,slv p_b] H (fun v H2=>∃ (r0:Bool),v=.bool r0∧K r0 H2)
def QdL (C:Ctx) (p_s:Sl) (p_v:Str) (K:Int→Heap→Prop) (H:Heap):Prop:=
 Spec Tryz.prog C 173 [slv p_s,sv p_v] H (fun v H2=>∃ (r0:Int),v=.int .i64 r0∧K r0 H2)
def Qhd (C:Ctx) (p_w:Option (Nat×Nat)) (p_l:Sl) (p_between:Str) (p_write:Value) (K:Heap→Prop) (H:Heap):Prop:=
 Spec Tryz.prog C 174 [pv p_w,slv p_l,sv p_between,p_write] H (fun v H2=>v=.tuple #[]∧K H2)
def QcN (C:Ctx) (p_w:Option (Nat×Nat)) (p_l:Sl) (p_between:Str) (p_write:Value) (K:Heap→Prop) (H:Heap):Prop:=
 Spec Tryz.prog C 175 [pv p_w,slv p_l,sv p_between,p_write] H (fun v H2=>v=.tuple #[]∧K H2)
def QfP (C:Ctx) (p_w:Option (Nat×Nat)) (p_t:Qe) (K:Heap→Prop) (H:Heap):Prop:=
 Spec Tryz.prog C 176 [pv p_w,.agg (Qe.c p_t).toArray] H (fun v H2=>v=.tuple #[]∧K H2)
def Qa8 (C:Ctx) (p_w:Option (Nat×Nat)) (p_l:Sl) (p_between:Str) (p_write:Value) (K:Heap→Prop) (H:Heap):Prop:=
 Spec Tryz.prog C 177 [pv p_w,slv p_l,sv p_between,p_write] H (fun v H2=>v=.tuple #[]∧K H2)
def Qd2 (C:Ctx) (p_v:Qb) (K:Str→Heap→Prop) (H:Heap):Prop:=
 Spec Tryz.prog C 179 [.agg (Qb.c p_v).toArray] H (fun v H2=>∃ (r0:Str),v=sv r0∧K r0 H2)
theorem Qd2.gh {C:Ctx} {p_v:Qb} {K:Str→Heap→Prop} {H:Heap} (h:Qd2 C p_v (fun r0 H2=>∃ H0,Gh C H2 H0∧K r0 H0) H):Qd2 C p_v K H:=
 Spec.gh (Spec.mono h fun _ H2 ⟨r0,hv,H0,hg,hk⟩=>⟨H0,hg,r0,hv,hk⟩)
def Qcd (C:Ctx) (p_s:Str) (K:Bool→Heap→Prop) (H:Heap):Prop:=
 Spec Tryz.prog C 180 [sv p_s] H (fun v H2=>∃ (r0:Bool),v=.bool r0∧K r0 H2)
def QbO (C:Ctx) (p_t:Qe) (K:Int→Heap→Prop) (H:Heap):Prop:=
 Spec Tryz.prog C 181 [.agg (Qe.c p_t).toArray] H (fun v H2=>∃ (r0:Int),v=.int .i64 r0∧K r0 H2)
theorem QbO.gh {C:Ctx} {p_t:Qe} {K:Int→Heap→Prop} {H:Heap} (h:QbO C p_t (fun r0 H2=>∃ H0,Gh C H2 H0∧K r0 H0) H):QbO C p_t K H:=
 Spec.gh (Spec.mono h fun _ H2 ⟨r0,hv,H0,hg,hk⟩=>⟨H0,hg,r0,hv,hk⟩)
def Qbs (C:Ctx) (p_s:Sl) (p_f:Value) (K:Int→Heap→Prop) (H:Heap):Prop:=
 Spec Tryz.prog C 183 [slv p_s,p_f] H (fun v H2=>∃ (r0:Int),v=.int .i64 r0∧K r0 H2)
def Qbe (C:Ctx) (p_s:Sl) (p_f:Value) (K:Int→Heap→Prop) (H:Heap):Prop:=
 Spec Tryz.prog C 184 [slv p_s,p_f] H (fun v H2=>∃ (r0:Int),v=.int .i64 r0∧K r0 H2)
def Qb7 (C:Ctx) (p_s:Sl) (p_f:Value) (K:Bool→Heap→Prop) (H:Heap):Prop:=
 Spec Tryz.prog C 185 [slv p_s,p_f] H (fun v H2=>∃ (r0:Bool),v=.bool r0∧K r0 H2)
def QgM (C:Ctx) (p_x:Str) (v0:Nat×Nat) (K:Bool→Heap→Prop) (H:Heap):Prop:=
 Spec Tryz.prog C 186 [sv p_x,pv (some v0)] H (fun v H2=>∃ (r0:Bool),v=.bool r0∧K r0 H2)
def QgL (C:Ctx) (p_s:Str) (p_prefix:Str) (K:Bool→Heap→Prop) (H:Heap):Prop:=
 Spec Tryz.prog C 187 [sv p_s,sv p_prefix] H (fun v H2=>∃ (r0:Bool),v=.bool r0∧K r0 H2)
def QaL (C:Ctx) (p_s:Sl) (p_f:Value) (K:Bool→Heap→Prop) (H:Heap):Prop:=
 Spec Tryz.prog C 188 [slv p_s,p_f] H (fun v H2=>∃ (r0:Bool),v=.bool r0∧K r0 H2)
def Qh9 (C:Ctx) (p_x:Qh) (v0:Nat×Nat) (K:Bool→Heap→Prop) (H:Heap):Prop:=
 Spec Tryz.prog C 189 [.agg (Qh.c p_x).toArray,pv (some v0)] H (fun v H2=>∃ (r0:Bool),v=.bool r0∧K r0 H2)
def Qbt (C:Ctx) (p_s:Sl) (p_f:Value) (K:Int→Heap→Prop) (H:Heap):Prop:=
 Spec Tryz.prog C 190 [slv p_s,p_f] H (fun v H2=>∃ (r0:Int),v=.int .i64 r0∧K r0 H2)
def Qax (C:Ctx) (p_s:Sl) (p_f:Value) (K:Bool→Heap→Prop) (H:Heap):Prop:=
 Spec Tryz.prog C 191 [slv p_s,p_f] H (fun v H2=>∃ (r0:Bool),v=.bool r0∧K r0 H2)
def QhF (C:Ctx) (p_x:Qd) (v0:Nat×Nat) (K:Bool→Heap→Prop) (H:Heap):Prop:=
 Spec Tryz.prog C 192 [.agg (Qd.c p_x).toArray,pv (some v0)] H (fun v H2=>∃ (r0:Bool),v=.bool r0∧K r0 H2)
def Q7 (C:Ctx) (p_l:Sl) (p_is:Value) (K:Bool→Heap→Prop) (H:Heap):Prop:=
 Spec Tryz.prog C 193 [slv p_l,p_is] H (fun v H2=>∃ (r0:Bool),v=.bool r0∧K r0 H2)
theorem Q7.gh {C:Ctx} {p_l:Sl} {p_is:Value} {K:Bool→Heap→Prop} {H:Heap} (h:Q7 C p_l p_is (fun r0 H2=>∃ H0,Gh C H2 H0∧K r0 H0) H):Q7 C p_l p_is K H:=
 Spec.gh (Spec.mono h fun _ H2 ⟨r0,hv,H0,hg,hk⟩=>⟨H0,hg,r0,hv,hk⟩)
def Qb2 (C:Ctx) (p_s:Sl) (p_f:Value) (K:Int→Heap→Prop) (H:Heap):Prop:=
 Spec Tryz.prog C 194 [slv p_s,p_f] H (fun v H2=>∃ (r0:Int),v=.int .i64 r0∧K r0 H2)
def QgA (C:Ctx) (p_s:Str) (p_sep:Str) (K:Str→Str→Bool→Heap→Prop) (H:Heap):Prop:=
 Spec Tryz.prog C 195 [sv p_s,sv p_sep] H (fun v H2=>∃ (r0:Str) (r1:Str) (r2:Bool),v=.tuple #[sv r0,sv r1,.bool r2]∧K r0 r1 r2 H2)
def Qbz (C:Ctx) (p_s:Sl) (p_f:Value) (K:Bool→Heap→Prop) (H:Heap):Prop:=
 Spec Tryz.prog C 196 [slv p_s,p_f] H (fun v H2=>∃ (r0:Bool),v=.bool r0∧K r0 H2)
def QjV (C:Ctx) (p_x:Qa) (v0:Nat×Nat) (K:Bool→Heap→Prop) (H:Heap):Prop:=
 Spec Tryz.prog C 197 [.agg (Qa.c p_x).toArray,pv (some v0)] H (fun v H2=>∃ (r0:Bool),v=.bool r0∧K r0 H2)
def QbF (C:Ctx) (p_s:Sl) (p_f:Value) (K:Int→Heap→Prop) (H:Heap):Prop:=
 Spec Tryz.prog C 198 [slv p_s,p_f] H (fun v H2=>∃ (r0:Int),v=.int .i64 r0∧K r0 H2)
def Qbd (C:Ctx) (p_s:Sl) (p_f:Value) (K:Int→Heap→Prop) (H:Heap):Prop:=
 Spec Tryz.prog C 199 [slv p_s,p_f] H (fun v H2=>∃ (r0:Int),v=.int .i64 r0∧K r0 H2)
def QfS (C:Ctx) (p_c:Int) (K:Bool→Heap→Prop) (H:Heap):Prop:=
 Spec Tryz.prog C 200 [.int .u8 p_c] H (fun v H2=>∃ (r0:Bool),v=.bool r0∧K r0 H2)
def Qbx (C:Ctx) (p_v:Qb) (K:Int→Heap→Prop) (H:Heap):Prop:=
 Spec Tryz.prog C 201 [.agg (Qb.c p_v).toArray] H (fun v H2=>∃ (r0:Int),v=.int .i64 r0∧K r0 H2)
theorem Qbx.gh {C:Ctx} {p_v:Qb} {K:Int→Heap→Prop} {H:Heap} (h:Qbx C p_v (fun r0 H2=>∃ H0,Gh C H2 H0∧K r0 H0) H):Qbx C p_v K H:=
 Spec.gh (Spec.mono h fun _ H2 ⟨r0,hv,H0,hg,hk⟩=>⟨H0,hg,r0,hv,hk⟩)
def Qcl (C:Ctx) (p_s:Str) (K:Int→Heap→Prop) (H:Heap):Prop:=
 Spec Tryz.prog C 202 [sv p_s] H (fun v H2=>∃ (r0:Int),v=.int .i64 r0∧K r0 H2)
theorem Qcl.gh {C:Ctx} {p_s:Str} {K:Int→Heap→Prop} {H:Heap} (h:Qcl C p_s (fun r0 H2=>∃ H0,Gh C H2 H0∧K r0 H0) H):Qcl C p_s K H:=
 Spec.gh (Spec.mono h fun _ H2 ⟨r0,hv,H0,hg,hk⟩=>⟨H0,hg,r0,hv,hk⟩)
def Qd4 (C:Ctx) (p_v:Qb) (K:Bool→Heap→Prop) (H:Heap):Prop:=
 Spec Tryz.prog C 203 [.agg (Qb.c p_v).toArray] H (fun v H2=>∃ (r0:Bool),v=.bool r0∧K r0 H2)
theorem Qd4.gh {C:Ctx} {p_v:Qb} {K:Bool→Heap→Prop} {H:Heap} (h:Qd4 C p_v (fun r0 H2=>∃ H0,Gh C H2 H0∧K r0 H0) H):Qd4 C p_v K H:=
 Spec.gh (Spec.mono h fun _ H2 ⟨r0,hv,H0,hg,hk⟩=>⟨H0,hg,r0,hv,hk⟩)
def QB (C:Ctx) (p_s1:Sl) (p_s2:Sl) (p_eq:Value) (K:Bool→Heap→Prop) (H:Heap):Prop:=
 Spec Tryz.prog C 204 [slv p_s1,slv p_s2,p_eq] H (fun v H2=>∃ (r0:Bool),v=.bool r0∧K r0 H2)
theorem QB.gh {C:Ctx} {p_s1:Sl} {p_s2:Sl} {p_eq:Value} {K:Bool→Heap→Prop} {H:Heap} (h:QB C p_s1 p_s2 p_eq (fun r0 H2=>∃ H0,Gh C H2 H0∧K r0 H0) H):QB C p_s1 p_s2 p_eq K H:=
 Spec.gh (Spec.mono h fun _ H2 ⟨r0,hv,H0,hg,hk⟩=>⟨H0,hg,r0,hv,hk⟩)
def Qz (C:Ctx) (p_s1:Sl) (p_s2:Sl) (p_eq:Value) (K:Bool→Heap→Prop) (H:Heap):Prop:=
 Spec Tryz.prog C 205 [slv p_s1,slv p_s2,p_eq] H (fun v H2=>∃ (r0:Bool),v=.bool r0∧K r0 H2)
theorem Qz.gh {C:Ctx} {p_s1:Sl} {p_s2:Sl} {p_eq:Value} {K:Bool→Heap→Prop} {H:Heap} (h:Qz C p_s1 p_s2 p_eq (fun r0 H2=>∃ H0,Gh C H2 H0∧K r0 H0) H):Qz C p_s1 p_s2 p_eq K H:=
 Spec.gh (Spec.mono h fun _ H2 ⟨r0,hv,H0,hg,hk⟩=>⟨H0,hg,r0,hv,hk⟩)
def Qco (C:Ctx) (p_v:Qb) (K:Int→Heap→Prop) (H:Heap):Prop:=
 Spec Tryz.prog C 206 [.agg (Qb.c p_v).toArray] H (fun v H2=>∃ (r0:Int),v=.int .i64 r0∧K r0 H2)
theorem Qco.gh {C:Ctx} {p_v:Qb} {K:Int→Heap→Prop} {H:Heap} (h:Qco C p_v (fun r0 H2=>∃ H0,Gh C H2 H0∧K r0 H0) H):Qco C p_v K H:=
 Spec.gh (Spec.mono h fun _ H2 ⟨r0,hv,H0,hg,hk⟩=>⟨H0,hg,r0,hv,hk⟩)
def QjY (C:Ctx) (K:Option Nat→Heap→Prop) (H:Heap):Prop:=
 Spec Tryz.prog C 207 [] H (fun v H2=>∃ (r0:Option Nat),v=mv r0∧K r0 H2)
def QeZ (C:Ctx) (p_v:Qb) (K:Bool→Heap→Prop) (H:Heap):Prop:=
 Spec Tryz.prog C 208 [.agg (Qb.c p_v).toArray] H (fun v H2=>∃ (r0:Bool),v=.bool r0∧K r0 H2)
theorem QeZ.gh {C:Ctx} {p_v:Qb} {K:Bool→Heap→Prop} {H:Heap} (h:QeZ C p_v (fun r0 H2=>∃ H0,Gh C H2 H0∧K r0 H0) H):QeZ C p_v K H:=
 Spec.gh (Spec.mono h fun _ H2 ⟨r0,hv,H0,hg,hk⟩=>⟨H0,hg,r0,hv,hk⟩)
def Qep (C:Ctx) (p_x:Qa) (v0:Nat×Nat) (K:Bool→Heap→Prop) (H:Heap):Prop:=
 Spec Tryz.prog C 209 [.agg (Qa.c p_x).toArray,pv (some v0)] H (fun v H2=>∃ (r0:Bool),v=.bool r0∧K r0 H2)
theorem Qep.gh {C:Ctx} {p_x:Qa} {v0:Nat×Nat} {K:Bool→Heap→Prop} {H:Heap} (h:Qep C p_x v0 (fun r0 H2=>∃ H0,Gh C H2 H0∧K r0 H0) H):Qep C p_x v0 K H:=
 Spec.gh (Spec.mono h fun _ H2 ⟨r0,hv,H0,hg,hk⟩=>⟨H0,hg,r0,hv,hk⟩)
def QhG (C:Ctx) (p_l:Sl) (v0:Nat×Nat) (v1:Nat×Nat) (K:Heap→Prop) (H:Heap):Prop:=
 Spec Tryz.prog C 210 [slv p_l,pv (some v0),pv (some v1)] H (fun v H2=>v=.tuple #[]∧K H2)
def QeL (C:Ctx) (p_v:Qb) (v0:Nat×Nat) (v1:Nat×Nat) (K:Heap→Prop) (H:Heap):Prop:=
 Spec Tryz.prog C 211 [.agg (Qb.c p_v).toArray,pv (some v0),pv (some v1)] H (fun v H2=>v=.tuple #[]∧K H2)
def QeA (C:Ctx) (p_b:Bool) (K:Str→Heap→Prop) (H:Heap):Prop:=
 Spec Tryz.prog C 212 [.bool p_b] H (fun v H2=>∃ (r0:Str),v=sv r0∧K r0 H2)
def QgK (C:Ctx) (p_i:Int) (p_base:Int) (K:Str→Heap→Prop) (H:Heap):Prop:=
 Spec Tryz.prog C 213 [.int .i64 p_i,.int .i64 p_base] H (fun v H2=>∃ (r0:Str),v=sv r0∧K r0 H2)
def QiZ (C:Ctx) (p_b:Option (Nat×Nat)) (p_s:Str) (K:Heap→Prop) (H:Heap):Prop:=
 Spec Tryz.prog C 214 [pv p_b,sv p_s] H (fun v H2=>v=.tuple #[]∧K H2)
def Qfm (C:Ctx) (p_s:Str) (K:Bool→Heap→Prop) (H:Heap):Prop:=
 Spec Tryz.prog C 215 [sv p_s] H (fun v H2=>∃ (r0:Bool),v=.bool r0∧K r0 H2)
def QcK (C:Ctx) (p_w:Option (Nat×Nat)) (p_l:Sl) (p_write:Value) (K:Heap→Prop) (H:Heap):Prop:=
 Spec Tryz.prog C 216 [pv p_w,slv p_l,p_write] H (fun v H2=>v=.tuple #[]∧K H2)
def Qe0 (C:Ctx) (p_v:Qb) (K:Str→Heap→Prop) (H:Heap):Prop:=
 Spec Tryz.prog C 217 [.agg (Qb.c p_v).toArray] H (fun v H2=>∃ (r0:Str),v=sv r0∧K r0 H2)
theorem Qe0.gh {C:Ctx} {p_v:Qb} {K:Str→Heap→Prop} {H:Heap} (h:Qe0 C p_v (fun r0 H2=>∃ H0,Gh C H2 H0∧K r0 H0) H):Qe0 C p_v K H:=
 Spec.gh (Spec.mono h fun _ H2 ⟨r0,hv,H0,hg,hk⟩=>⟨H0,hg,r0,hv,hk⟩)
def Q9 (C:Ctx) (p_l:Sl) (p_depth:Value) (K:Int→Heap→Prop) (H:Heap):Prop:=
 Spec Tryz.prog C 218 [slv p_l,p_depth] H (fun v H2=>∃ (r0:Int),v=.int .i64 r0∧K r0 H2)
theorem Q9.gh {C:Ctx} {p_l:Sl} {p_depth:Value} {K:Int→Heap→Prop} {H:Heap} (h:Q9 C p_l p_depth (fun r0 H2=>∃ H0,Gh C H2 H0∧K r0 H0) H):Q9 C p_l p_depth K H:=
 Spec.gh (Spec.mono h fun _ H2 ⟨r0,hv,H0,hg,hk⟩=>⟨H0,hg,r0,hv,hk⟩)
def QbU (C:Ctx) (p_s:Str) (p_substr:Str) (K:Int→Heap→Prop) (H:Heap):Prop:=
 Spec Tryz.prog C 219 [sv p_s,sv p_substr] H (fun v H2=>∃ (r0:Int),v=.int .i64 r0∧K r0 H2)
def Qcz (C:Ctx) (p_s:Sl) (p_f:Value) (K:Int→Heap→Prop) (H:Heap):Prop:=
 Spec Tryz.prog C 220 [slv p_s,p_f] H (fun v H2=>∃ (r0:Int),v=.int .i64 r0∧K r0 H2)
def Qak (C:Ctx) (p_s:Str) (p_prefix:Str) (K:Bool→Heap→Prop) (H:Heap):Prop:=
 Spec Tryz.prog C 221 [sv p_s,sv p_prefix] H (fun v H2=>∃ (r0:Bool),v=.bool r0∧K r0 H2)
def Qbc (C:Ctx) (p_s:Sl) (p_f:Value) (K:Int→Heap→Prop) (H:Heap):Prop:=
 Spec Tryz.prog C 222 [slv p_s,p_f] H (fun v H2=>∃ (r0:Int),v=.int .i64 r0∧K r0 H2)
def QaR (C:Ctx) (p_s:Sl) (p_f:Value) (K:Int→Heap→Prop) (H:Heap):Prop:=
 Spec Tryz.prog C 223 [slv p_s,p_f] H (fun v H2=>∃ (r0:Int),v=.int .i64 r0∧K r0 H2)
def QbB (C:Ctx) (p_s:Sl) (p_f:Value) (K:Bool→Heap→Prop) (H:Heap):Prop:=
 Spec Tryz.prog C 224 [slv p_s,p_f] H (fun v H2=>∃ (r0:Bool),v=.bool r0∧K r0 H2)
def QjX (C:Ctx) (p_x:Qe) (v0:Nat×Nat) (K:Bool→Heap→Prop) (H:Heap):Prop:=
 Spec Tryz.prog C 225 [.agg (Qe.c p_x).toArray,pv (some v0)] H (fun v H2=>∃ (r0:Bool),v=.bool r0∧K r0 H2)
def Qet (C:Ctx) (p_s:Str) (p_sep:Str) (K:Str→Str→Bool→Heap→Prop) (H:Heap):Prop:=
 Spec Tryz.prog C 226 [sv p_s,sv p_sep] H (fun v H2=>∃ (r0:Str) (r1:Str) (r2:Bool),v=.tuple #[sv r0,sv r1,.bool r2]∧K r0 r1 r2 H2)
def Qb1 (C:Ctx) (p_s:Sl) (p_f:Value) (K:Int→Heap→Prop) (H:Heap):Prop:=
 Spec Tryz.prog C 227 [slv p_s,p_f] H (fun v H2=>∃ (r0:Int),v=.int .i64 r0∧K r0 H2)
def QaX (C:Ctx) (p_v:Qb) (K:Int→Heap→Prop) (H:Heap):Prop:=
 Spec Tryz.prog C 228 [.agg (Qb.c p_v).toArray] H (fun v H2=>∃ (r0:Int),v=.int .i64 r0∧K r0 H2)
theorem QaX.gh {C:Ctx} {p_v:Qb} {K:Int→Heap→Prop} {H:Heap} (h:QaX C p_v (fun r0 H2=>∃ H0,Gh C H2 H0∧K r0 H0) H):QaX C p_v K H:=
 Spec.gh (Spec.mono h fun _ H2 ⟨r0,hv,H0,hg,hk⟩=>⟨H0,hg,r0,hv,hk⟩)
def Qck (C:Ctx) (p_v:Qb) (K:Bool→Heap→Prop) (H:Heap):Prop:=
 Spec Tryz.prog C 229 [.agg (Qb.c p_v).toArray] H (fun v H2=>∃ (r0:Bool),v=.bool r0∧K r0 H2)
theorem Qck.gh {C:Ctx} {p_v:Qb} {K:Bool→Heap→Prop} {H:Heap} (h:Qck C p_v (fun r0 H2=>∃ H0,Gh C H2 H0∧K r0 H0) H):Qck C p_v K H:=
 Spec.gh (Spec.mono h fun _ H2 ⟨r0,hv,H0,hg,hk⟩=>⟨H0,hg,r0,hv,hk⟩)
def Qcj (C:Ctx) (p_v:Qb) (K:Bool→Heap→Prop) (H:Heap):Prop:=
 Spec Tryz.prog C 230 [.agg (Qb.c p_v).toArray] H (fun v H2=>∃ (r0:Bool),v=.bool r0∧K r0 H2)
theorem Qcj.gh {C:Ctx} {p_v:Qb} {K:Bool→Heap→Prop} {H:Heap} (h:Qcj C p_v (fun r0 H2=>∃ H0,Gh C H2 H0∧K r0 H0) H):Qcj C p_v K H:=
 Spec.gh (Spec.mono h fun _ H2 ⟨r0,hv,H0,hg,hk⟩=>⟨H0,hg,r0,hv,hk⟩)
def QbW (C:Ctx) (p_v:Qb) (p_most:Int) (K:Int→Heap→Prop) (H:Heap):Prop:=
 Spec Tryz.prog C 231 [.agg (Qb.c p_v).toArray,.int .i64 p_most] H (fun v H2=>∃ (r0:Int),v=.int .i64 r0∧K r0 H2)
theorem QbW.gh {C:Ctx} {p_v:Qb} {p_most:Int} {K:Int→Heap→Prop} {H:Heap} (h:QbW C p_v p_most (fun r0 H2=>∃ H0,Gh C H2 H0∧K r0 H0) H):QbW C p_v p_most K H:=
 Spec.gh (Spec.mono h fun _ H2 ⟨r0,hv,H0,hg,hk⟩=>⟨H0,hg,r0,hv,hk⟩)
def Qaq (C:Ctx) (p_v:Qb) (K:Bool→Bool→Heap→Prop) (H:Heap):Prop:=
 Spec Tryz.prog C 232 [.agg (Qb.c p_v).toArray] H (fun v H2=>∃ (r0:Bool) (r1:Bool),v=.tuple #[.bool r0,.bool r1]∧K r0 r1 H2)
theorem Qaq.gh {C:Ctx} {p_v:Qb} {K:Bool→Bool→Heap→Prop} {H:Heap} (h:Qaq C p_v (fun r0 r1 H2=>∃ H0,Gh C H2 H0∧K r0 r1 H0) H):Qaq C p_v K H:=
 Spec.gh (Spec.mono h fun _ H2 ⟨r0,r1,hv,H0,hg,hk⟩=>⟨H0,hg,r0,r1,hv,hk⟩)
def Qdk (C:Ctx) (p_b:Bool) (K:Str→Heap→Prop) (H:Heap):Prop:=
 Spec Tryz.prog C 233 [.bool p_b] H (fun v H2=>∃ (r0:Str),v=sv r0∧K r0 H2)
def QeD (C:Ctx) (p_w:Option (Nat×Nat)) (p_l:Sl) (p_between:Str) (p_write:Value) (K:Heap→Prop) (H:Heap):Prop:=
 Spec Tryz.prog C 235 [pv p_w,slv p_l,sv p_between,p_write] H (fun v H2=>v=.tuple #[]∧K H2)
def Qb6 (C:Ctx) (p_n:Int) (K:Str→Heap→Prop) (H:Heap):Prop:=
 Spec Tryz.prog C 236 [.int .i64 p_n] H (fun v H2=>∃ (r0:Str),v=sv r0∧K r0 H2)
theorem Qb6.gh {C:Ctx} {p_n:Int} {K:Str→Heap→Prop} {H:Heap} (h:Qb6 C p_n (fun r0 H2=>∃ H0,Gh C H2 H0∧K r0 H0) H):Qb6 C p_n K H:=
 Spec.gh (Spec.mono h fun _ H2 ⟨r0,hv,H0,hg,hk⟩=>⟨H0,hg,r0,hv,hk⟩)
def Qc7 (C:Ctx) (p_s:Str) (K:Str→Heap→Prop) (H:Heap):Prop:=
 Spec Tryz.prog C 237 [sv p_s] H (fun v H2=>∃ (r0:Str),v=sv r0∧K r0 H2)
theorem Qc7.gh {C:Ctx} {p_s:Str} {K:Str→Heap→Prop} {H:Heap} (h:Qc7 C p_s (fun r0 H2=>∃ H0,Gh C H2 H0∧K r0 H0) H):Qc7 C p_s K H:=
 Spec.gh (Spec.mono h fun _ H2 ⟨r0,hv,H0,hg,hk⟩=>⟨H0,hg,r0,hv,hk⟩)
def Qng (C:Ctx) (p_l:Sl) (K:Str→Heap→Prop) (H:Heap):Prop:=
 Spec Tryz.prog C 238 [slv p_l] H (fun v H2=>∃ (r0:Str),v=sv r0∧K r0 H2)
def Qbg (C:Ctx) (p_s:Str) (p_c:Int) (K:Int→Heap→Prop) (H:Heap):Prop:=
 Spec Tryz.prog C 239 [sv p_s,.int .u8 p_c] H (fun v H2=>∃ (r0:Int),v=.int .i64 r0∧K r0 H2)
def Qg6 (C:Ctx) (p_n:Int) (K:Int→Heap→Prop) (H:Heap):Prop:=
 Spec Tryz.prog C 241 [.int .i64 p_n] H (fun v H2=>∃ (r0:Int),v=.int .i64 r0∧K r0 H2)
def QdW (C:Ctx) (p_s:Str) (p_sep:Str) (K:Int→Heap→Prop) (H:Heap):Prop:=
 Spec Tryz.prog C 242 [sv p_s,sv p_sep] H (fun v H2=>∃ (r0:Int),v=.int .i64 r0∧K r0 H2)
def Qb3 (C:Ctx) (p_s:Sl) (p_f:Value) (K:Int→Heap→Prop) (H:Heap):Prop:=
 Spec Tryz.prog C 243 [slv p_s,p_f] H (fun v H2=>∃ (r0:Int),v=.int .i64 r0∧K r0 H2)
def QhD (C:Ctx) (p_s:Str) (K:Bool→Heap→Prop) (H:Heap):Prop:=
 Spec Tryz.prog C 244 [sv p_s] H (fun v H2=>∃ (r0:Bool),v=.bool r0∧K r0 H2)
def QiT (C:Ctx) (p_s:Str) (K:Bool→Heap→Prop) (H:Heap):Prop:=
 Spec Tryz.prog C 245 [sv p_s] H (fun v H2=>∃ (r0:Bool),v=.bool r0∧K r0 H2)
def QhC (C:Ctx) (p_s:Str) (K:Int→Heap→Prop) (H:Heap):Prop:=
 Spec Tryz.prog C 246 [sv p_s] H (fun v H2=>∃ (r0:Int),v=.int .i64 r0∧K r0 H2)
def QhH (C:Ctx) (p_s:Str) (K:Int→Bool→Heap→Prop) (H:Heap):Prop:=
 Spec Tryz.prog C 247 [sv p_s] H (fun v H2=>∃ (r0:Int) (r1:Bool),v=.tuple #[.int .i64 r0,.bool r1]∧K r0 r1 H2)
def Qe3 (C:Ctx) (p_s:Str) (K:Bool→Heap→Prop) (H:Heap):Prop:=
 Spec Tryz.prog C 248 [sv p_s] H (fun v H2=>∃ (r0:Bool),v=.bool r0∧K r0 H2)
def QeB (C:Ctx) (p_s:Str) (p_prefix:Str) (K:Str→Heap→Prop) (H:Heap):Prop:=
 Spec Tryz.prog C 255 [sv p_s,sv p_prefix] H (fun v H2=>∃ (r0:Str),v=sv r0∧K r0 H2)
def Qcv (C:Ctx) (p_s:Str) (p_cutset:Str) (K:Str→Heap→Prop) (H:Heap):Prop:=
 Spec Tryz.prog C 256 [sv p_s,sv p_cutset] H (fun v H2=>∃ (r0:Str),v=sv r0∧K r0 H2)
theorem Qcv.gh {C:Ctx} {p_s:Str} {p_cutset:Str} {K:Str→Heap→Prop} {H:Heap} (h:Qcv C p_s p_cutset (fun r0 H2=>∃ H0,Gh C H2 H0∧K r0 H0) H):Qcv C p_s p_cutset K H:=
 Spec.gh (Spec.mono h fun _ H2 ⟨r0,hv,H0,hg,hk⟩=>⟨H0,hg,r0,hv,hk⟩)
def Qci (C:Ctx) (p_s:Str) (p_prefix:Str) (K:Str→Heap→Prop) (H:Heap):Prop:=
 Spec Tryz.prog C 262 [sv p_s,sv p_prefix] H (fun v H2=>∃ (r0:Str),v=sv r0∧K r0 H2)
def Qjz (C:Ctx) (p_s:Str) (p_c:Int) (K:Str→Heap→Prop) (H:Heap):Prop:=
 Spec Tryz.prog C 263 [sv p_s,.int .u8 p_c] H (fun v H2=>∃ (r0:Str),v=sv r0∧K r0 H2)
def QiV (C:Ctx) (p_s:Str) (p_c:Int) (K:Str→Heap→Prop) (H:Heap):Prop:=
 Spec Tryz.prog C 264 [sv p_s,.int .u8 p_c] H (fun v H2=>∃ (r0:Str),v=sv r0∧K r0 H2)
def Qaf (C:Ctx) (p_chars:Str) (K:List Value→Bool→Heap→Prop) (H:Heap):Prop:=
 Spec Tryz.prog C 265 [sv p_chars] H (fun v H2=>∃ (r0:List Value) (r1:Bool),v=.tuple #[.agg (List.toArray r0),.bool r1]∧K r0 r1 H2)
theorem Qaf.gh {C:Ctx} {p_chars:Str} {K:List Value→Bool→Heap→Prop} {H:Heap} (h:Qaf C p_chars (fun r0 r1 H2=>∃ H0,Gh C H2 H0∧K r0 r1 H0) H):Qaf C p_chars K H:=
 Spec.gh (Spec.mono h fun _ H2 ⟨r0,r1,hv,H0,hg,hk⟩=>⟨H0,hg,r0,r1,hv,hk⟩)
def Qdb (C:Ctx) (p_s:Str) (p_as:Option (Nat×Nat)) (K:Str→Heap→Prop) (H:Heap):Prop:=
 Spec Tryz.prog C 266 [sv p_s,pv p_as] H (fun v H2=>∃ (r0:Str),v=sv r0∧K r0 H2)
def QcI (C:Ctx) (p_s:Str) (p_as:Option (Nat×Nat)) (K:Str→Heap→Prop) (H:Heap):Prop:=
 Spec Tryz.prog C 267 [sv p_s,pv p_as] H (fun v H2=>∃ (r0:Str),v=sv r0∧K r0 H2)
def QhE (C:Ctx) (p_s:Str) (p_cutset:Str) (K:Str→Heap→Prop) (H:Heap):Prop:=
 Spec Tryz.prog C 268 [sv p_s,sv p_cutset] H (fun v H2=>∃ (r0:Str),v=sv r0∧K r0 H2)
def Qg7 (C:Ctx) (p_s:Str) (p_cutset:Str) (K:Str→Heap→Prop) (H:Heap):Prop:=
 Spec Tryz.prog C 269 [sv p_s,sv p_cutset] H (fun v H2=>∃ (r0:Str),v=sv r0∧K r0 H2)
def Qa1 (C:Ctx) (p_as:Option (Nat×Nat)) (p_c:Int) (K:Bool→Heap→Prop) (H:Heap):Prop:=
 Spec Tryz.prog C 272 [pv p_as,.int .u8 p_c] H (fun v H2=>∃ (r0:Bool),v=.bool r0∧K r0 H2)
def QgW (C:Ctx) (p_m:Qg) (K:Bool→Heap→Prop) (H:Heap):Prop:=
 nw (Qg.c p_m) (fun b1 H2=>
 ldT H2 Qg.c (b1,0) fun x3=>
 Qc6 C x3 (fun r5 H6=>
 ift r5
 (Qgy C (fun r8 H9=>
 K r8 H9) H6)
 (ldT H6 Qg.c (b1,0) fun x10=>
 QcZ C x10 (fun r12 r13 H14=>
 ldT H14 Qg.c (b1,0) fun x15=>
 Qc8 C x15 (fun r17 r18 H19=>
 dr H19 fun Hs20=>
 ift (r12 == r17)
 (ift ((r13:Int) == r18)
 (ldT Hs20 Qg.c (b1,0) fun x24=>
 ldT Hs20 Qg.c (b1,0) fun x26=>
 QcY C x24 (fun r29 H30=>
 Heap.le Hs20 H30∧
 Qcm C x26 (fun r32 H33=>
 Heap.le Hs20 H33∧
 ift ((r29:Int) == r32)
 (Qgy C (fun r36 H37=>
 Heap.le Hs20 H37∧
 K r36 H37) H33)
 (K false H33)) H30) H19)
 (K false H19))
 (K false H19)) H14) H6)) H2) H
theorem QlH (C p_m K H) (h:QgW C p_m K H):Qas C p_m K H:=by
 refine Ye Tryz.func3 rfl Tryz.ntmps3 [(0,.agg (Qg.c p_m).toArray)] (Zo (GL.box (v:=.agg (Qg.c p_m).toArray) (cs:=Qg.c p_m) h trivial rfl rfl rfl ?_))
 intro b1 H2 h
 refine Za (GL.nil (GC.seq (Zo ?_)))
 obtain ⟨x3,v4,h⟩:=h
 refine Zv (OV.loadT rfl rfl rfl v4) (Zc h Qpp ?_)
 rintro _ H6 ⟨r5,rfl,h⟩
 refine GL.nil (Yd h (fun u7 h=>?_) fun u7 h=>?_)
 refine Zo (Zc h QkX ?_)
 rintro _ H9 ⟨r8,rfl,h⟩
 refine Za (GL.nil ?_)
 exact Y1 I3 ⟨r8,rfl,h⟩
 refine GC.skip (Zo ?_)
 obtain ⟨x10,v11,h⟩:=h
 refine Zv (OV.loadT rfl rfl rfl v11) (Zc h Qmp ?_)
 rintro _ H14 ⟨r12,r13,rfl,h⟩
 refine Zm (Yv (sv r12) rfl rfl (Yv (.int .i64 r13) rfl rfl (Za (Za (GL.nil (Zo ?_))))))
 obtain ⟨x15,v16,h⟩:=h
 refine Zv (OV.loadT rfl rfl rfl v16) (Zc h Qps ?_)
 rintro _ H19 ⟨r17,r18,rfl,h⟩
 refine Zm (Yv (sv r17) rfl rfl (Yv (.int .i64 r18) rfl rfl (Za (Za (GL.nil (GC.seq ?_))))))
 obtain ⟨Hs20,hle21,h⟩:=h
 refine GC.any (Hs:=Hs20) (by kernel_rfl) hle21 (Zp 0 rfl Ym (Zp 1 rfl Ym (Zp 2 rfl (OV.sbin (a:=r12) (b:=r17) (v:=.bool (r12 == r17)) rfl rfl rfl) (Zp 3 rfl Ym ?_))))
 rcases h.em with ⟨u22,h⟩ | ⟨u22,h⟩
 refine Zg 4 rfl (Yt u22) Ym (Zg 5 rfl (Yt u22) Ym (Zg 6 rfl (Yt u22) (OV.ibin (v:=.bool ((r13:Int) == r18)) rfl rfl rfl) (Zp 7 rfl (OV.pickT rfl u22 rfl) (Zp 8 rfl Ym ?_))))
 rcases h.em with ⟨u23,h⟩ | ⟨u23,h⟩
 obtain ⟨x24,v25,h⟩:=h
 refine Zg 9 rfl (Yt u23) (OV.loadT rfl rfl rfl v25) ?_
 obtain ⟨x26,v27,h⟩:=h
 refine Zg 11 rfl (Yt u23) (OV.loadT rfl rfl rfl v27) (GA.eff 10 rfl (by kernel_rfl) (GL.call h (Yt u23) rfl Qmo (vs:=[.agg (Qg.c x24).toArray]) rfl ?_))
 rintro _ H30 ⟨r29,rfl,h⟩
 obtain ⟨hle28,h⟩:=h
 refine GA.back hle28 (GA.eff 12 rfl (by kernel_rfl) (GL.call h (Yt u23) rfl Qk2 (vs:=[.agg (Qg.c x26).toArray]) rfl ?_))
 rintro _ H33 ⟨r32,rfl,h⟩
 obtain ⟨hle31,h⟩:=h
 refine GA.back hle31 (Zg 13 rfl (Yt u23) (OV.ibin (v:=.bool ((r29:Int) == r32)) rfl rfl rfl) (Zp 14 rfl (OV.pickT rfl u23 rfl) (Zp 15 rfl Ym ?_)))
 rcases h.em with ⟨u34,h⟩ | ⟨u34,h⟩
 refine GA.eff 16 rfl (by kernel_rfl) (GL.call h (Yt u34) rfl QkX (vs:=[]) rfl ?_)
 rintro _ H37 ⟨r36,rfl,h⟩
 obtain ⟨hle35,h⟩:=h
 refine GA.back hle35 (Zp 17 rfl (OV.pickT rfl u34 rfl) (Zp 18 rfl Ya (GA.done (by kernel_rfl) (GL.nil ?_))))
 exact Y1 I3 ⟨r36,rfl,h⟩
 refine Zj 16 rfl (Yw u34) (Zp 17 rfl (OV.pickF rfl u34 rfl) (Zp 18 rfl Ya (GA.done (by kernel_rfl) (GL.nil ?_))))
 exact Y1 I3 ⟨false,rfl,h⟩
 refine Zj 9 rfl (Yw u23) (Zj 10 rfl (Yw u23) (Zj 11 rfl (Yw u23) (Zj 12 rfl (Yw u23) (Zj 13 rfl (Yw u23) (Zp 14 rfl (OV.pickF rfl u23 rfl) (Zp 15 rfl Ym (Zj 16 rfl (Yw rfl) (Zp 17 rfl (OV.pickF rfl rfl rfl) (Zp 18 rfl Ya (GA.done (by kernel_rfl) (GL.nil ?_)))))))))))
 exact Y1 I3 ⟨false,rfl,h⟩
 refine Zj 4 rfl (Yw u22) (Zj 5 rfl (Yw u22) (Zj 6 rfl (Yw u22) (Zp 7 rfl (OV.pickF rfl u22 rfl) (Zp 8 rfl Ym (Zj 9 rfl (Yw rfl) (Zj 10 rfl (Yw rfl) (Zj 11 rfl (Yw rfl) (Zj 12 rfl (Yw rfl) (Zj 13 rfl (Yw rfl) (Zp 14 rfl (OV.pickF rfl rfl rfl) (Zp 15 rfl Ym (Zj 16 rfl (Yw rfl) (Zp 17 rfl (OV.pickF rfl rfl rfl) (Zp 18 rfl Ya (GA.done (by kernel_rfl) (GL.nil ?_))))))))))))))))
 exact Y1 I3 ⟨false,rfl,h⟩
end
section
set_option maxRecDepth 100000
open Go Go.Proofs
def Qlc (C:Ctx) (p_m:Qg) (K:Bool→Heap→Prop) (H:Heap):Prop:=
 nw (Qg.c p_m) (fun b1 H2=>
 ldL H2 ((b1,0).1,(b1,0).2+1) fun x3=>
 ldS H2 ((b1,0).1,(b1,0).2+0) fun x5=>
 lp (α:=Int×Int) ((w .i64 ((Sl.len x3:Int)+(w .i64 (Int.tdiv (List.length x5:Int) 50)))),0) H2 (fun x7 J8 H9=>
 ldL H9 ((b1,0).1,(b1,0).2+2) fun x10=>
 ift ((decide ((x7.2:Int) < (Sl.len x10:Int))) && (decide ((x7.1:Int) < 2000)))
 (ldL H9 ((b1,0).1,(b1,0).2+2) fun x14=>
 ixa x14 x7.2 fun p16=>
 ldL H9 ((p16.1,p16.2+(x7.2:Int).toNat*6).1,(p16.1,p16.2+(x7.2:Int).toNat*6).2+4) fun x21=>
 lp (α:=Int×Int) ((w .i64 ((w .i64 (x7.1+1))+(Sl.len x21:Int))),0) H9 (fun x23 J24 H25=>
 ldL H25 ((b1,0).1,(b1,0).2+2) fun x26=>
 ixa x26 x7.2 fun p28=>
 ldL H25 ((p28.1,p28.2+(x7.2:Int).toNat*6).1,(p28.1,p28.2+(x7.2:Int).toNat*6).2+5) fun x33=>
 ift ((decide ((x23.2:Int) < (Sl.len x33:Int))) && (decide ((x23.1:Int) < 2000)))
 (ldL H25 ((b1,0).1,(b1,0).2+2) fun x37=>
 ixa x37 x7.2 fun p39=>
 ldL H25 ((p39.1,p39.2+(x7.2:Int).toNat*6).1,(p39.1,p39.2+(x7.2:Int).toNat*6).2+5) fun x44=>
 ixa x44 x23.2 fun p46=>
 ldL H25 ((p46.1,p46.2+(x23.2:Int).toNat*2).1,(p46.1,p46.2+(x23.2:Int).toNat*2).2+1) fun x51=>
 QbX C x51 (w .i64 (2000 - x23.1)) (fun r53 H54=>
 J24 ((w .i64 ((w .i64 (x23.1+1))+r53)),(w .i64 (x23.2+1))) H54) H25)
 (J8 (x23.1,(w .i64 (x7.2+1))) H25)))
 (lp (α:=Int×Int) (x7.1,0) H9 (fun x55 J56 H57=>
 ldL H57 ((b1,0).1,(b1,0).2+3) fun x58=>
 ift ((decide ((x55.2:Int) < (Sl.len x58:Int))) && (decide ((x55.1:Int) < 2000)))
 (ldL H57 ((b1,0).1,(b1,0).2+3) fun x62=>
 ixa x62 x55.2 fun p64=>
 ldL H57 ((p64.1,p64.2+(x55.2:Int).toNat*6).1,(p64.1,p64.2+(x55.2:Int).toNat*6).2+5) fun x69=>
 QbX C x69 (w .i64 (2000 - x55.1)) (fun r71 H72=>
 J56 ((w .i64 ((w .i64 (x55.1+1))+r71)),(w .i64 (x55.2+1))) H72) H57)
 (lp (α:=Int×Int) (x55.1,0) H57 (fun x73 J74 H75=>
 ldL H75 ((b1,0).1,(b1,0).2+4) fun x76=>
 ift ((decide ((x73.2:Int) < (Sl.len x76:Int))) && (decide ((x73.1:Int) < 2000)))
 (dr H75 fun Hs80=>
 ldL Hs80 ((b1,0).1,(b1,0).2+4) fun x82=>
 ixa x82 x73.2 fun p84=>
 ldL Hs80 ((p84.1,p84.2+(x73.2:Int).toNat*6).1,(p84.1,p84.2+(x73.2:Int).toNat*6).2+4) fun x89=>
 ldL Hs80 ((b1,0).1,(b1,0).2+4) fun x91=>
 ixa x91 x73.2 fun p93=>
 ldL Hs80 ((p93.1,p93.2+(x73.2:Int).toNat*6).1,(p93.1,p93.2+(x73.2:Int).toNat*6).2+3) fun x98=>
 ldL Hs80 ((b1,0).1,(b1,0).2+4) fun x100=>
 ixa x100 x73.2 fun p102=>
 ldL Hs80 ((p102.1,p102.2+(x73.2:Int).toNat*6).1,(p102.1,p102.2+(x73.2:Int).toNat*6).2+5) fun x107=>
 Qaz C x98 (w .i64 (2000 - x73.1)) (fun r110 H111=>
 Heap.le Hs80 H111∧
 QcV C x107 (w .i64 (2000 - x73.1)) (fun r113 H114=>
 Heap.le Hs80 H114∧
 J74 ((w .i64 ((w .i64 ((w .i64 ((w .i64 (x73.1+1))+(Sl.len x89:Int)))+r110))+r113)),(w .i64 (x73.2+1))) H114) H111) H75)
 (lp (α:=Int×Int) (x73.1,0) H75 (fun x115 J116 H117=>
 ldL H117 ((b1,0).1,(b1,0).2+5) fun x118=>
 ift ((decide ((x115.2:Int) < (Sl.len x118:Int))) && (decide ((x115.1:Int) < 2000)))
 (ldL H117 ((b1,0).1,(b1,0).2+5) fun x122=>
 ixa x122 x115.2 fun p124=>
 ldL H117 ((p124.1,p124.2+(x115.2:Int).toNat*4).1,(p124.1,p124.2+(x115.2:Int).toNat*4).2+3) fun x129=>
 QcV C x129 (w .i64 (2000 - x115.1)) (fun r131 H132=>
 J116 ((w .i64 ((w .i64 (x115.1+1))+r131)),(w .i64 (x115.2+1))) H132) H117)
 (K (decide ((x115.1:Int) ≥ 2000)) H117))))))))) H
theorem QoW (C p_m K H) (h:Qlc C p_m K H):Qc6 C p_m K H:=by
 refine Ye Tryz.func8 rfl Tryz.ntmps8 [(0,.agg (Qg.c p_m).toArray)] (Zo (GL.box (v:=.agg (Qg.c p_m).toArray) (cs:=Qg.c p_m) h trivial rfl rfl rfl ?_))
 intro b1 H2 h
 refine Za (GL.nil (Zo (Zf (Yl h fun x3 h=>?_))))
 refine Zq (Zf (Yl h fun x5 h=>?_))
 refine Zr (Zv (OV.quo rfl rfl (by decide)) (Zi (.int .i64 (w .i64 ((Sl.len x3:Int)+(w .i64 (Int.tdiv (List.length x5:Int) 50))))) (Za (GL.nil (GC.seq (Zo (Za (GL.nil (GC.block (Yp h (fun x7=>[(3,.int .i64 x7.1),(4,.int .i64 x7.2),(1,pv (some (b1,0)))]) ?_))))))))))
 intro x7 H9 J8 h
 refine GC.seq (Zo (Zm (Zf (Yl h fun x10 h=>?_))))
 refine Zq (Zi (.bool (decide ((x7.2:Int) < (Sl.len x10:Int)))) (Zm (GL.cut0 3 [(25,.bool ((decide ((x7.2:Int) < (Sl.len x10:Int))) && (decide ((x7.1:Int) < 2000)))),(1,pv (some (b1,0))),(3,.int .i64 x7.1),(4,.int .i64 x7.2)] ?_ ?_)))
 rcases Zb (decide ((x7.2:Int) < (Sl.len x10:Int))) with u12 | u12
 refine Zu u12 Ym (Zu u12 (OV.ibin (v:=.bool (decide ((x7.1:Int) < 2000))) rfl rfl rfl) (Zt u12 ?_))
 exact GL.jump0 (fun _ _ h=>h) () rfl ⟨(by rw [u12]; rfl),rfl,rfl,rfl,trivial⟩
 refine Zk u12 (Zk u12 (Zn u12 ?_))
 exact GL.jump0 (fun _ _ h=>h) () rfl ⟨(by rw [u12]; rfl),rfl,rfl,rfl,trivial⟩
 refine GL.nil (Yd h (fun u13 h=>?_) fun u13 h=>?_)
 refine GC.skip (GC.seq (GC.block (Zo (Zm (Zi (.int .i64 (w .i64 (x7.1+1))) (Zf (Yl h fun x14 h=>?_)))))))
 refine Zm (Yx h fun p16 h=>?_)
 refine Zf (Yl h fun x21 h=>?_)
 refine Zq (Zi (.int .i64 (w .i64 ((w .i64 (x7.1+1))+(Sl.len x21:Int)))) (Za (GL.nil (Zo (Za (GL.nil (GC.block (Yp h (fun x23=>[(3,.int .i64 x23.1),(5,.int .i64 x23.2),(1,pv (some (b1,0))),(4,.int .i64 x7.2)]) ?_))))))))
 intro x23 H25 J24 h
 refine GC.seq (Zo (Zm (Zf (Yl h fun x26 h=>?_))))
 refine Zm (Yx h fun p28 h=>?_)
 refine Zf (Yl h fun x33 h=>?_)
 refine Zq (Zi (.bool (decide ((x23.2:Int) < (Sl.len x33:Int)))) (Zm (GL.cut0 3 [(50,.bool ((decide ((x23.2:Int) < (Sl.len x33:Int))) && (decide ((x23.1:Int) < 2000)))),(1,pv (some (b1,0))),(3,.int .i64 x23.1),(4,.int .i64 x7.2),(5,.int .i64 x23.2)] ?_ ?_)))
 rcases Zb (decide ((x23.2:Int) < (Sl.len x33:Int))) with u35 | u35
 refine Zu u35 Ym (Zu u35 (OV.ibin (v:=.bool (decide ((x23.1:Int) < 2000))) rfl rfl rfl) (Zt u35 ?_))
 exact GL.jump0 (fun _ _ h=>h) () rfl ⟨(by rw [u35]; rfl),rfl,rfl,rfl,rfl,trivial⟩
 refine Zk u35 (Zk u35 (Zn u35 ?_))
 exact GL.jump0 (fun _ _ h=>h) () rfl ⟨(by rw [u35]; rfl),rfl,rfl,rfl,rfl,trivial⟩
 refine GL.nil (Yd h (fun u36 h=>?_) fun u36 h=>?_)
 refine GC.skip (GC.seq (GC.block (GC.region (Zm (Zi (.int .i64 (w .i64 (x23.1+1))) (Zf (Yl h fun x37 h=>?_)))))))
 refine Zm (Yx h fun p39 h=>?_)
 refine Zf (Yl h fun x44 h=>?_)
 refine Zm (Yx h fun p46 h=>?_)
 refine Zf (Yl h fun x51 h=>?_)
 refine Zm (Zi (.int .i64 (w .i64 (2000 - x23.1))) (Zc h Qj5 ?_))
 rintro _ H54 ⟨r53,rfl,h⟩
 refine Zi (.int .i64 (w .i64 ((w .i64 (x23.1+1))+r53))) (Za (GL.nil_to (fun _ _ h=>h) (GC.region (Zm (Zi (.int .i64 (w .i64 (x23.2+1))) (Za ?_))))))
 exact Yj I3 ((w .i64 ((w .i64 (x23.1+1))+r53)),(w .i64 (x23.2+1))) h
 refine GC.exit_to (fun _ _ h=>h) (GC.region (Zm (Zi (.int .i64 (w .i64 (x7.2+1))) (Za ?_))))
 exact Yj I3 (x23.1,(w .i64 (x7.2+1))) h
 refine GC.exit_to (fun _ _ h=>h) (GC.seq (Zo (Za (GL.nil (GC.block (Yp h (fun x55=>[(3,.int .i64 x55.1),(6,.int .i64 x55.2),(1,pv (some (b1,0)))]) ?_))))))
 intro x55 H57 J56 h
 refine GC.seq (Zo (Zm (Zf (Yl h fun x58 h=>?_))))
 refine Zq (Zi (.bool (decide ((x55.2:Int) < (Sl.len x58:Int)))) (Zm (GL.cut0 3 [(77,.bool ((decide ((x55.2:Int) < (Sl.len x58:Int))) && (decide ((x55.1:Int) < 2000)))),(1,pv (some (b1,0))),(3,.int .i64 x55.1),(6,.int .i64 x55.2)] ?_ ?_)))
 rcases Zb (decide ((x55.2:Int) < (Sl.len x58:Int))) with u60 | u60
 refine Zu u60 Ym (Zu u60 (OV.ibin (v:=.bool (decide ((x55.1:Int) < 2000))) rfl rfl rfl) (Zt u60 ?_))
 exact GL.jump0 (fun _ _ h=>h) () rfl ⟨(by rw [u60]; rfl),rfl,rfl,rfl,trivial⟩
 refine Zk u60 (Zk u60 (Zn u60 ?_))
 exact GL.jump0 (fun _ _ h=>h) () rfl ⟨(by rw [u60]; rfl),rfl,rfl,rfl,trivial⟩
 refine GL.nil (Yd h (fun u61 h=>?_) fun u61 h=>?_)
 refine GC.skip (GC.seq (GC.block (GC.region (Zm (Zi (.int .i64 (w .i64 (x55.1+1))) (Zf (Yl h fun x62 h=>?_)))))))
 refine Zm (Yx h fun p64 h=>?_)
 refine Zf (Yl h fun x69 h=>?_)
 refine Zm (Zi (.int .i64 (w .i64 (2000 - x55.1))) (Zc h Qj5 ?_))
 rintro _ H72 ⟨r71,rfl,h⟩
 refine Zi (.int .i64 (w .i64 ((w .i64 (x55.1+1))+r71))) (Za (GL.nil_to (fun _ _ h=>h) (GC.region (Zm (Zi (.int .i64 (w .i64 (x55.2+1))) (Za ?_))))))
 exact Yj I3 ((w .i64 ((w .i64 (x55.1+1))+r71)),(w .i64 (x55.2+1))) h
 refine GC.exit_to (fun _ _ h=>h) (GC.seq (Zo (Za (GL.nil (GC.block (Yp h (fun x73=>[(3,.int .i64 x73.1),(7,.int .i64 x73.2),(1,pv (some (b1,0)))]) ?_))))))
 intro x73 H75 J74 h
 refine GC.seq (Zo (Zm (Zf (Yl h fun x76 h=>?_))))
 refine Zq (Zi (.bool (decide ((x73.2:Int) < (Sl.len x76:Int)))) (Zm (GL.cut0 3 [(100,.bool ((decide ((x73.2:Int) < (Sl.len x76:Int))) && (decide ((x73.1:Int) < 2000)))),(1,pv (some (b1,0))),(3,.int .i64 x73.1),(7,.int .i64 x73.2)] ?_ ?_)))
 rcases Zb (decide ((x73.2:Int) < (Sl.len x76:Int))) with u78 | u78
 refine Zu u78 Ym (Zu u78 (OV.ibin (v:=.bool (decide ((x73.1:Int) < 2000))) rfl rfl rfl) (Zt u78 ?_))
 exact GL.jump0 (fun _ _ h=>h) () rfl ⟨(by rw [u78]; rfl),rfl,rfl,rfl,trivial⟩
 refine Zk u78 (Zk u78 (Zn u78 ?_))
 exact GL.jump0 (fun _ _ h=>h) () rfl ⟨(by rw [u78]; rfl),rfl,rfl,rfl,trivial⟩
 refine GL.nil (Yd h (fun u79 h=>?_) fun u79 h=>?_)
 refine GC.skip (GC.seq (GC.block ?_))
 obtain ⟨Hs80,hle81,h⟩:=h
 refine GC.any (Hs:=Hs80) (by kernel_rfl) hle81 (Zp 0 rfl Ym (Zp 1 rfl (OV.ibin (v:=.int .i64 (w .i64 (x73.1+1))) rfl rfl rfl) (Zp 2 rfl Yf ?_)))
 obtain ⟨x82,v83,h⟩:=h
 refine Zp 3 rfl (Yo v83) (Zp 4 rfl Ym ?_)
 obtain ⟨p84,ha85,hb86,u87,hd88,h⟩:=h
 refine Zp 5 rfl (OV.indexAddr rfl rfl rfl rfl ha85 hb86 u87 hd88) (Zp 6 rfl Yf ?_)
 obtain ⟨x89,v90,h⟩:=h
 refine Zp 7 rfl (Yo v90) (Zp 8 rfl (OV.lenSl rfl rfl) (Zp 9 rfl (OV.ibin (v:=.int .i64 (w .i64 ((w .i64 (x73.1+1))+(Sl.len x89:Int)))) rfl rfl rfl) (Zp 10 rfl Yf ?_)))
 obtain ⟨x91,v92,h⟩:=h
 refine Zp 11 rfl (Yo v92) (Zp 12 rfl Ym ?_)
 obtain ⟨p93,ha94,hb95,u96,hd97,h⟩:=h
 refine Zp 13 rfl (OV.indexAddr rfl rfl rfl rfl ha94 hb95 u96 hd97) (Zp 14 rfl Yf ?_)
 obtain ⟨x98,v99,h⟩:=h
 refine Zp 15 rfl (Yo v99) (Zp 16 rfl Ym (Zp 17 rfl (OV.ibin (v:=.int .i64 (w .i64 (2000 - x73.1))) rfl rfl rfl) (Zp 20 rfl Yf ?_)))
 obtain ⟨x100,v101,h⟩:=h
 refine Zp 21 rfl (Yo v101) (Zp 22 rfl Ym ?_)
 obtain ⟨p102,ha103,hb104,u105,hd106,h⟩:=h
 refine Zp 23 rfl (OV.indexAddr rfl rfl rfl rfl ha103 hb104 u105 hd106) (Zp 24 rfl Yf ?_)
 obtain ⟨x107,v108,h⟩:=h
 refine Zp 25 rfl (Yo v108) (Zp 26 rfl Ym (Zp 27 rfl (OV.ibin (v:=.int .i64 (w .i64 (2000 - x73.1))) rfl rfl rfl) (GA.eff 18 rfl (by kernel_rfl) (Zc h QhJ ?_))))
 rintro _ H111 ⟨r110,rfl,h⟩
 obtain ⟨hle109,h⟩:=h
 refine GA.back hle109 (Zp 19 rfl (OV.ibin (v:=.int .i64 (w .i64 ((w .i64 ((w .i64 (x73.1+1))+(Sl.len x89:Int)))+r110))) rfl rfl rfl) (GA.eff 28 rfl (by kernel_rfl) (Zc h Qmh ?_)))
 rintro _ H114 ⟨r113,rfl,h⟩
 obtain ⟨hle112,h⟩:=h
 refine GA.back hle112 (Zp 29 rfl (OV.ibin (v:=.int .i64 (w .i64 ((w .i64 ((w .i64 ((w .i64 (x73.1+1))+(Sl.len x89:Int)))+r110))+r113))) rfl rfl rfl) (Zp 30 rfl Ya (GA.done (by kernel_rfl) (GL.nil_to (fun _ _ h=>h) (GC.region (Zm (Zi (.int .i64 (w .i64 (x73.2+1))) (Za ?_))))))))
 exact Yj I3 ((w .i64 ((w .i64 ((w .i64 ((w .i64 (x73.1+1))+(Sl.len x89:Int)))+r110))+r113)),(w .i64 (x73.2+1))) h
 refine GC.exit_to (fun _ _ h=>h) (GC.seq (Zo (Za (GL.nil (GC.block (Yp h (fun x115=>[(3,.int .i64 x115.1),(8,.int .i64 x115.2),(1,pv (some (b1,0)))]) ?_))))))
 intro x115 H117 J116 h
 refine GC.seq (Zo (Zm (Zf (Yl h fun x118 h=>?_))))
 refine Zq (Zi (.bool (decide ((x115.2:Int) < (Sl.len x118:Int)))) (Zm (GL.cut0 3 [(141,.bool ((decide ((x115.2:Int) < (Sl.len x118:Int))) && (decide ((x115.1:Int) < 2000)))),(1,pv (some (b1,0))),(3,.int .i64 x115.1),(8,.int .i64 x115.2)] ?_ ?_)))
 rcases Zb (decide ((x115.2:Int) < (Sl.len x118:Int))) with u120 | u120
 refine Zu u120 Ym (Zu u120 (OV.ibin (v:=.bool (decide ((x115.1:Int) < 2000))) rfl rfl rfl) (Zt u120 ?_))
 exact GL.jump0 (fun _ _ h=>h) () rfl ⟨(by rw [u120]; rfl),rfl,rfl,rfl,trivial⟩
 refine Zk u120 (Zk u120 (Zn u120 ?_))
 exact GL.jump0 (fun _ _ h=>h) () rfl ⟨(by rw [u120]; rfl),rfl,rfl,rfl,trivial⟩
 refine GL.nil (Yd h (fun u121 h=>?_) fun u121 h=>?_)
 refine GC.skip (GC.seq (GC.block (GC.region (Zm (Zi (.int .i64 (w .i64 (x115.1+1))) (Zf (Yl h fun x122 h=>?_)))))))
 refine Zm (Yx h fun p124 h=>?_)
 refine Zf (Yl h fun x129 h=>?_)
 refine Zm (Zi (.int .i64 (w .i64 (2000 - x115.1))) (Zc h Qmh ?_))
 rintro _ H132 ⟨r131,rfl,h⟩
 refine Zi (.int .i64 (w .i64 ((w .i64 (x115.1+1))+r131))) (Za (GL.nil_to (fun _ _ h=>h) (GC.region (Zm (Zi (.int .i64 (w .i64 (x115.2+1))) (Za ?_))))))
 exact Yj I3 ((w .i64 ((w .i64 (x115.1+1))+r131)),(w .i64 (x115.2+1))) h
 refine GC.exit_to (fun _ _ h=>h) (Zo (Zm (Zi (.bool (decide ((x115.1:Int) ≥ 2000))) (Za (GL.nil ?_)))))
 exact Y1 I3 ⟨(decide ((x115.1:Int) ≥ 2000)),rfl,h⟩
def Qla (C:Ctx) (K:Bool→Heap→Prop) (H:Heap):Prop:=
 nw (Qe.c Qe.zero) (fun b1 H2=>
 stT (b1,0) (Qe.c (⟨[39,97],Sl.nil⟩:Qe)) (fun H3=>
 jn (α:=Nat×Nat) (fun x5 H6=>
 ldT H6 Qg.c x5 fun x318=>
 QcZ C x318 (fun r320 r321 H322=>
 Qal C [66] (fun r323 H324=>
 Qal C [65] (fun r325 H326=>
 Qal C [66] (fun r327 H328=>
 nw ((Qa.c r325)++(Qa.c r327)++[]) (fun b329 H330=>
 nw ((Qa.c r323)++(Qa.c (⟨4,Qp.zero,[],Qb.zero,(Sl.of (some (b329,0)) 2 2)⟩:Qa))++[]) (fun b331 H332=>
 QlO C (⟨6,Qp.zero,[43],Qb.zero,(Sl.of (some (b331,0)) 2 2)⟩:Qa) (fun r333 H334=>
 jn (α:=Bool) (fun b336 H346=>
 jn (α:=Bool) (fun b348 H359=>
 jn (α:=Bool) (fun b360 H371=>
 K b360 H371)
 (fun J361=>ift b348
 (ixa r333 1 fun p364=>
 ldS H359 (p364.1,p364.2+(1:Int).toNat*1) fun x369=>
 J361 (x369 == ([65]:Str)) H359)
 (J361 false H359)))
 (fun J349=>ift (b336 && (((Sl.len r333:Int):Int) == 2))
 (ixa r333 0 fun p352=>
 ldS H346 (p352.1,p352.2+(0:Int).toNat*1) fun x357=>
 J349 (x357 == ([66]:Str)) H346)
 (J349 false H346)))
 (fun J337=>ift (((r321:Int) == 0) && (r320 == ([109,111,100,117,108,101,32,103,114,97,112,104,10,105,109,112,111,114,116,32,98,97,115,101,10,112,117,98,32,116,121,112,101,32,108,105,115,116,40,39,97,41,32,61,32,110,105,108,32,124,32,99,111,110,115,40,104,101,97,100,58,32,39,97,44,32,108,105,115,116,40,39,97,41,41,10,112,117,98,32,105,110,112,117,116,32,101,100,103,101,40,102,114,111,109,58,32,105,110,116,44,32,116,111,58,32,105,110,116,41,10,112,97,116,104,40,88,44,32,99,111,117,110,116,40,90,41,41,32,58,45,32,98,97,115,101,46,112,97,116,104,40,88,44,32,95,41,44,32,90,32,61,32,88,46,10,110,101,118,101,114,32,108,111,111,112,32,58,45,32,110,111,116,32,101,100,103,101,40,88,44,32,88,41,44,32,40,110,105,108,41,46,10]:Str)))
 (ldT H334 Qg.c x5 fun x340=>
 ldT H334 Qg.c x5 fun x342=>
 QeW C x340 x342 (fun r344 H345=>
 J337 r344 H345) H334)
 (J337 false H334))) H332) H330) H328) H326) H324) H322) H6)
 (fun J4=>dr H3 fun Hs8=>
 ldT Hs8 Qe.c (b1,0) fun x10=>
 ldT Hs8 Qe.c (b1,0) fun x12=>
 ∃ (F77:Sl→Heap→Prop) (F78:Sl→Heap→Prop) (F79:Sl→Heap→Prop) (F80:Sl→Heap→Prop) (F81:Sl→Heap→Prop) (F82:Sl→Heap→Prop) (F83:Sl→Heap→Prop) (F84:Sl→Heap→Prop) (F85:Qa→Heap→Prop) (F86:Qa→Heap→Prop) (F87:Sl→Heap→Prop) (F88:Sl→Heap→Prop) (F89:Qa→Heap→Prop) (F90:Sl→Heap→Prop) (F91:Qa→Heap→Prop) (F92:Sl→Heap→Prop) (F93:Sl→Heap→Prop) (F94:Sl→Heap→Prop) (F95:Qa→Heap→Prop) (F96:Qa→Heap→Prop) (F97:Sl→Heap→Prop) (F98:Sl→Heap→Prop) (F99:Sl→Heap→Prop) (F100:Sl→Heap→Prop) (F101:(Nat×Nat)→Heap→Prop),(∀ x A B,Heap.le A B→F77 x A→F77 x B)∧(∀ x A B,Heap.le A B→F78 x A→F78 x B)∧(∀ x A B,Heap.le A B→F79 x A→F79 x B)∧(∀ x A B,Heap.le A B→F80 x A→F80 x B)∧(∀ x A B,Heap.le A B→F81 x A→F81 x B)∧(∀ x A B,Heap.le A B→F82 x A→F82 x B)∧(∀ x A B,Heap.le A B→F83 x A→F83 x B)∧(∀ x A B,Heap.le A B→F84 x A→F84 x B)∧(∀ x A B,Heap.le A B→F85 x A→F85 x B)∧(∀ x A B,Heap.le A B→F86 x A→F86 x B)∧(∀ x A B,Heap.le A B→F87 x A→F87 x B)∧(∀ x A B,Heap.le A B→F88 x A→F88 x B)∧(∀ x A B,Heap.le A B→F89 x A→F89 x B)∧(∀ x A B,Heap.le A B→F90 x A→F90 x B)∧(∀ x A B,Heap.le A B→F91 x A→F91 x B)∧(∀ x A B,Heap.le A B→F92 x A→F92 x B)∧(∀ x A B,Heap.le A B→F93 x A→F93 x B)∧(∀ x A B,Heap.le A B→F94 x A→F94 x B)∧(∀ x A B,Heap.le A B→F95 x A→F95 x B)∧(∀ x A B,Heap.le A B→F96 x A→F96 x B)∧(∀ x A B,Heap.le A B→F97 x A→F97 x B)∧(∀ x A B,Heap.le A B→F98 x A→F98 x B)∧(∀ x A B,Heap.le A B→F99 x A→F99 x B)∧(∀ x A B,Heap.le A B→F100 x A→F100 x B)∧(∀ x A B,Heap.le A B→F101 x A→F101 x B) ∧ 
 (∀ D,Heap.le H3 D → 
 nw ((Qn.c (⟨Qp.zero,[98,97,115,101]⟩:Qn))++[]) (fun b152 H153=>
 Heap.le D H153∧F77 (Sl.of (some (b152,0)) 1 1) H153) D) ∧ 
 (∀ D,Heap.le H3 D → 
 nw ([sv [39,97]]) (fun b155 H156=>
 Heap.le D H156∧F78 (Sl.of (some (b155,0)) 1 1) H156) D) ∧ 
 (∀ D,Heap.le H3 D → 
 nw ((Qe.c x12)++[]) (fun b158 H159=>
 Heap.le D H159∧F79 (Sl.of (some (b158,0)) 1 1) H159) D) ∧ 
 (∀ D,Heap.le H3 D→∀ (u19:Sl),F79 u19 D → 
 nw ((Qd.c (⟨[104,101,97,100],x10⟩:Qd))++(Qd.c (⟨[],(⟨[108,105,115,116],u19⟩:Qe)⟩:Qd))++[]) (fun b167 H168=>
 Heap.le D H168∧F80 (Sl.of (some (b167,0)) 2 2) H168) D) ∧ 
 (∀ D,Heap.le H3 D→∀ (u22:Sl),F80 u22 D → 
 nw ((Qh.c (⟨[110,105,108],Sl.nil⟩:Qh))++(Qh.c (⟨[99,111,110,115],u22⟩:Qh))++[]) (fun b174 H175=>
 Heap.le D H175∧F81 (Sl.of (some (b174,0)) 2 2) H175) D) ∧ 
 (∀ D,Heap.le H3 D→∀ (u26:Sl),∀ (u27:Sl),F78 u26 D→F81 u27 D → 
 nw ((Qf.c (⟨Qp.zero,true,[108,105,115,116],u26,u27⟩:Qf))++[]) (fun b184 H185=>
 Heap.le D H185∧F82 (Sl.of (some (b184,0)) 1 1) H185) D) ∧ 
 (∀ D,Heap.le H3 D → 
 nw ((Qd.c (⟨[102,114,111,109],(⟨[105,110,116],Sl.nil⟩:Qe)⟩:Qd))++(Qd.c (⟨[116,111],(⟨[105,110,116],Sl.nil⟩:Qe)⟩:Qd))++[]) (fun b187 H188=>
 Heap.le D H188∧F83 (Sl.of (some (b187,0)) 2 2) H188) D) ∧ 
 (∀ D,Heap.le H3 D→∀ (u31:Sl),F83 u31 D → 
 nw ((Qi.c (⟨Qp.zero,true,true,[101,100,103,101],u31⟩:Qi))++[]) (fun b194 H195=>
 Heap.le D H195∧F84 (Sl.of (some (b194,0)) 1 1) H195) D) ∧ 
 (∀ D,Heap.le H3 D → 
 Qal C [88] (fun r197 H198=>
 Heap.le D H198∧F85 r197 H198) D) ∧ 
 (∀ D,Heap.le H3 D → 
 Qal C [90] (fun r200 H201=>
 Heap.le D H201∧F86 r200 H201) D) ∧ 
 (∀ D,Heap.le H3 D→∀ (u35:Qa),∀ (u36:Qa),F85 u35 D→F86 u36 D → 
 nw ((Qa.c u35)++(Qa.c u36)++[]) (fun b207 H208=>
 Heap.le D H208∧F87 (Sl.of (some (b207,0)) 2 2) H208) D) ∧ 
 (∀ D,Heap.le H3 D → 
 nw ([sv [],sv [99,111,117,110,116]]) (fun b210 H211=>
 Heap.le D H211∧F88 (Sl.of (some (b210,0)) 2 2) H211) D) ∧ 
 (∀ D,Heap.le H3 D → 
 Qal C [88] (fun r213 H214=>
 Heap.le D H214∧F89 r213 H214) D) ∧ 
 (∀ D,Heap.le H3 D→∀ (u40:Qa),F89 u40 D → 
 nw ((Qa.c u40)++(Qa.c (⟨3,Qp.zero,[],Qb.zero,Sl.nil⟩:Qa))++[]) (fun b218 H219=>
 Heap.le D H219∧F90 (Sl.of (some (b218,0)) 2 2) H219) D) ∧ 
 (∀ D,Heap.le H3 D → 
 Qal C [88] (fun r223 H224=>
 Heap.le D H224∧F91 r223 H224) D) ∧ 
 (∀ D,Heap.le H3 D→∀ (u44:Qa),F91 u44 D → 
 nw ((Qa.c u44)++[]) (fun b228 H229=>
 Heap.le D H229∧F92 (Sl.of (some (b228,0)) 1 1) H229) D) ∧ 
 (∀ D,Heap.le H3 D→∀ (u47:Sl),∀ (u48:Sl),F90 u47 D→F92 u48 D → 
 nw ((Qc.c (⟨1,Qp.zero,[98,97,115,101,46,112,97,116,104],u47⟩:Qc))++(Qc.c (⟨4,Qp.zero,[90],u48⟩:Qc))++[]) (fun b237 H238=>
 Heap.le D H238∧F93 (Sl.of (some (b237,0)) 2 2) H238) D) ∧ 
 (∀ D,Heap.le H3 D→∀ (u53:Sl),∀ (u54:Sl),∀ (u55:Sl),F87 u53 D→F88 u54 D→F93 u55 D → 
 nw ((Qk.c (⟨Qp.zero,[112,97,116,104],u53,u54,u55⟩:Qk))++[]) (fun b250 H251=>
 Heap.le D H251∧F94 (Sl.of (some (b250,0)) 1 1) H251) D) ∧ 
 (∀ D,Heap.le H3 D → 
 Qal C [88] (fun r253 H254=>
 Heap.le D H254∧F95 r253 H254) D) ∧ 
 (∀ D,Heap.le H3 D → 
 Qal C [88] (fun r256 H257=>
 Heap.le D H257∧F96 r256 H257) D) ∧ 
 (∀ D,Heap.le H3 D→∀ (u59:Qa),∀ (u60:Qa),F95 u59 D→F96 u60 D → 
 nw ((Qa.c u59)++(Qa.c u60)++[]) (fun b263 H264=>
 Heap.le D H264∧F97 (Sl.of (some (b263,0)) 2 2) H264) D) ∧ 
 (∀ D,Heap.le H3 D → 
 nw ((Qa.c (⟨5,Qp.zero,[110,105,108],Qb.zero,Sl.nil⟩:Qa))++[]) (fun b268 H269=>
 Heap.le D H269∧F98 (Sl.of (some (b268,0)) 1 1) H269) D) ∧ 
 (∀ D,Heap.le H3 D→∀ (u65:Sl),∀ (u66:Sl),F97 u65 D→F98 u66 D → 
 nw ((Qc.c (⟨2,Qp.zero,[101,100,103,101],u65⟩:Qc))++(Qc.c (⟨3,Qp.zero,[],u66⟩:Qc))++[]) (fun b277 H278=>
 Heap.le D H278∧F99 (Sl.of (some (b277,0)) 2 2) H278) D) ∧ 
 (∀ D,Heap.le H3 D→∀ (u69:Sl),F99 u69 D → 
 nw ((Ql.c (⟨Qp.zero,[108,111,111,112],u69⟩:Ql))++[]) (fun b284 H285=>
 Heap.le D H285∧F100 (Sl.of (some (b284,0)) 1 1) H285) D) ∧ 
 (∀ D,Heap.le H3 D → 
 nw (Qg.c Qg.zero) (fun b297 H298=>
 Heap.le D H298∧F101 (b297,0) H298) D)∧(∀ D300,Heap.le H3 D300→∀ (u302:Nat×Nat),∀ (u305:Sl),∀ (u306:Sl),∀ (u307:Sl),∀ (u308:Sl),∀ (u309:Sl),F101 u302 D300→F77 u305 D300→F82 u306 D300→F84 u307 D300→F94 u308 D300→F100 u309 D300 → 
 stT u302 (Qg.c (⟨[103,114,97,112,104],u305,u306,u307,u308,u309⟩:Qg)) (fun H317=>
 Heap.le Hs8 H317∧
 J4 u302 H317) D300))) H2) H
theorem QoU (C:Ctx) (K:Bool→Heap→Prop) (H:Heap) (h:Qla C  K H):Qgy C  K H:=by
 refine Spec.enter Tryz.func9 rfl Tryz.ntmps9 rfl (GC.sub [] trivial (Zo (Za (GL.nil (Zo (Za (GL.nil (Zo (Zv (OV.build (vs:=[(0,sv [39,97])]) (v:=.agg (Qe.c (⟨[39,97],Sl.nil⟩:Qe)).toArray) rfl (fun _=>by kernel_rfl)) (GL.alloc (cs:=Qe.c Qe.zero) h trivial rfl rfl rfl ?_))))))))))
 intro b1 H2 h
 refine GL.storeT (p:=(b1,0)) (vs:=Qe.c (⟨[39,97],Sl.nil⟩:Qe)) h trivial rfl rfl rfl rfl ?_
 intro H3 h
 refine GL.nil (GC.seq ?_)
 obtain ⟨J4,h,hR7⟩:=h
 refine GC.meet (α:=Nat×Nat) J4 (fun x5=>[(3,pv (some x5)),(1,.func (.func 23) (List.toArray []) (List.toArray []))]) ?_ ?_
 obtain ⟨Hs8,hle9,h⟩:=h
 refine GC.any (Hs:=Hs8) (by kernel_rfl) hle9 (Zp 0 rfl (OV.build (vs:=[(1,sv [98,97,115,101])]) (v:=.agg (Qn.c (⟨Qp.zero,[98,97,115,101]⟩:Qn)).toArray) rfl (fun _=>by kernel_rfl)) (Zp 3 rfl (OV.build (vs:=[(0,sv [110,105,108])]) (v:=.agg (Qh.c (⟨[110,105,108],Sl.nil⟩:Qh)).toArray) rfl (fun _=>by kernel_rfl)) ?_))
 obtain ⟨x10,v11,h⟩:=h
 refine Zp 4 rfl (OV.loadT rfl rfl rfl v11) (Zp 5 rfl (OV.build (vs:=[(0,sv [104,101,97,100]),(1,.agg (Qe.c x10).toArray)]) (v:=.agg (Qd.c (⟨[104,101,97,100],x10⟩:Qd)).toArray) rfl (fun _=>by kernel_rfl)) ?_)
 obtain ⟨x12,v13,h⟩:=h
 refine Zp 6 rfl (OV.loadT rfl rfl rfl v13) (Zp 15 rfl (OV.build (vs:=[(0,sv [105,110,116])]) (v:=.agg (Qe.c (⟨[105,110,116],Sl.nil⟩:Qe)).toArray) rfl (fun _=>by kernel_rfl)) (Zp 16 rfl (OV.build (vs:=[(0,sv [102,114,111,109]),(1,.agg (Qe.c (⟨[105,110,116],Sl.nil⟩:Qe)).toArray)]) (v:=.agg (Qd.c (⟨[102,114,111,109],(⟨[105,110,116],Sl.nil⟩:Qe)⟩:Qd)).toArray) rfl (fun _=>by kernel_rfl)) (Zp 17 rfl (OV.build (vs:=[(0,sv [105,110,116])]) (v:=.agg (Qe.c (⟨[105,110,116],Sl.nil⟩:Qe)).toArray) rfl (fun _=>by kernel_rfl)) (Zp 18 rfl (OV.build (vs:=[(0,sv [116,111]),(1,.agg (Qe.c (⟨[105,110,116],Sl.nil⟩:Qe)).toArray)]) (v:=.agg (Qd.c (⟨[116,111],(⟨[105,110,116],Sl.nil⟩:Qe)⟩:Qd)).toArray) rfl (fun _=>by kernel_rfl)) (Zp 22 rfl Ym (Zp 24 rfl Ym (Zp 28 rfl Ym (Zp 30 rfl (OV.build (vs:=[(0,.int .u8 3)]) (v:=.agg (Qa.c (⟨3,Qp.zero,[],Qb.zero,Sl.nil⟩:Qa)).toArray) rfl (fun _=>by kernel_rfl)) (Zp 33 rfl Ym (Zp 40 rfl Ym (Zp 42 rfl Ym ?_)))))))))))
 refine Zp 46 rfl (OV.build (vs:=[(0,.int .u8 5),(2,sv [110,105,108])]) (v:=.agg (Qa.c (⟨5,Qp.zero,[110,105,108],Qb.zero,Sl.nil⟩:Qa)).toArray) rfl (fun _=>by kernel_rfl)) ?_
 obtain ⟨F77,F78,F79,F80,F81,F82,F83,F84,F85,F86,F87,F88,F89,F90,F91,F92,F93,F94,F95,F96,F97,F98,F99,F100,F101,hm102,hm103,hm104,hm105,hm106,hm107,hm108,hm109,hm110,hm111,hm112,hm113,hm114,hm115,hm116,hm117,hm118,hm119,hm120,hm121,hm122,hm123,hm124,hm125,hm126,ho127,ho128,ho129,ho130,ho131,ho132,ho133,ho134,ho135,ho136,ho137,ho138,ho139,ho140,ho141,ho142,ho143,ho144,ho145,ho146,ho147,ho148,ho149,ho150,ho151,h⟩:=h
 refine GA.un (fuel:=1) [⟨1,9,fun v A=>∃ (u14:Sl),v=slv u14∧F77 u14 A,fun _ A B hAB ⟨u14,e,q0⟩=>⟨u14,e,hm102 _ A B hAB q0⟩⟩,
 ⟨2,10,fun v A=>∃ (u15:Sl),v=slv u15∧F78 u15 A,fun _ A B hAB ⟨u15,e,q0⟩=>⟨u15,e,hm103 _ A B hAB q0⟩⟩,
 ⟨7,15,fun v A=>∃ (u16:Sl),v=slv u16∧F79 u16 A,fun _ A B hAB ⟨u16,e,q0⟩=>⟨u16,e,hm104 _ A B hAB q0⟩⟩,
 ⟨8,16,fun v A=>∃ (u17:Sl),v=.agg (Qe.c (⟨[108,105,115,116],u17⟩:Qe)).toArray∧F79 u17 A,fun _ A B hAB ⟨u17,e,q0⟩=>⟨u17,e,hm104 _ A B hAB q0⟩⟩,
 ⟨9,17,fun v A=>∃ (u18:Sl),v=.agg (Qd.c (⟨[],(⟨[108,105,115,116],u18⟩:Qe)⟩:Qd)).toArray∧F79 u18 A,fun _ A B hAB ⟨u18,e,q0⟩=>⟨u18,e,hm104 _ A B hAB q0⟩⟩,
 ⟨10,18,fun v A=>∃ (u20:Sl),v=slv u20∧F80 u20 A,fun _ A B hAB ⟨u20,e,q0⟩=>⟨u20,e,hm105 _ A B hAB q0⟩⟩,
 ⟨11,19,fun v A=>∃ (u21:Sl),v=.agg (Qh.c (⟨[99,111,110,115],u21⟩:Qh)).toArray∧F80 u21 A,fun _ A B hAB ⟨u21,e,q0⟩=>⟨u21,e,hm105 _ A B hAB q0⟩⟩,
 ⟨12,20,fun v A=>∃ (u23:Sl),v=slv u23∧F81 u23 A,fun _ A B hAB ⟨u23,e,q0⟩=>⟨u23,e,hm106 _ A B hAB q0⟩⟩,
 ⟨13,21,fun v A=>∃ (u24:Sl) (u25:Sl),v=.agg (Qf.c (⟨Qp.zero,true,[108,105,115,116],u24,u25⟩:Qf)).toArray∧F78 u24 A∧F81 u25 A,fun _ A B hAB ⟨u24,u25,e,q0,q1⟩=>⟨u24,u25,e,hm103 _ A B hAB q0,hm106 _ A B hAB q1⟩⟩,
 ⟨14,22,fun v A=>∃ (u28:Sl),v=slv u28∧F82 u28 A,fun _ A B hAB ⟨u28,e,q0⟩=>⟨u28,e,hm107 _ A B hAB q0⟩⟩,
 ⟨19,27,fun v A=>∃ (u29:Sl),v=slv u29∧F83 u29 A,fun _ A B hAB ⟨u29,e,q0⟩=>⟨u29,e,hm108 _ A B hAB q0⟩⟩,
 ⟨20,28,fun v A=>∃ (u30:Sl),v=.agg (Qi.c (⟨Qp.zero,true,true,[101,100,103,101],u30⟩:Qi)).toArray∧F83 u30 A,fun _ A B hAB ⟨u30,e,q0⟩=>⟨u30,e,hm108 _ A B hAB q0⟩⟩,
 ⟨21,29,fun v A=>∃ (u32:Sl),v=slv u32∧F84 u32 A,fun _ A B hAB ⟨u32,e,q0⟩=>⟨u32,e,hm109 _ A B hAB q0⟩⟩,
 ⟨23,31,fun v A=>∃ (u33:Qa),v=.agg (Qa.c u33).toArray∧F85 u33 A,fun _ A B hAB ⟨u33,e,q0⟩=>⟨u33,e,hm110 _ A B hAB q0⟩⟩,
 ⟨25,33,fun v A=>∃ (u34:Qa),v=.agg (Qa.c u34).toArray∧F86 u34 A,fun _ A B hAB ⟨u34,e,q0⟩=>⟨u34,e,hm111 _ A B hAB q0⟩⟩,
 ⟨26,34,fun v A=>∃ (u37:Sl),v=slv u37∧F87 u37 A,fun _ A B hAB ⟨u37,e,q0⟩=>⟨u37,e,hm112 _ A B hAB q0⟩⟩,
 ⟨27,35,fun v A=>∃ (u38:Sl),v=slv u38∧F88 u38 A,fun _ A B hAB ⟨u38,e,q0⟩=>⟨u38,e,hm113 _ A B hAB q0⟩⟩,
 ⟨29,37,fun v A=>∃ (u39:Qa),v=.agg (Qa.c u39).toArray∧F89 u39 A,fun _ A B hAB ⟨u39,e,q0⟩=>⟨u39,e,hm114 _ A B hAB q0⟩⟩,
 ⟨31,39,fun v A=>∃ (u41:Sl),v=slv u41∧F90 u41 A,fun _ A B hAB ⟨u41,e,q0⟩=>⟨u41,e,hm115 _ A B hAB q0⟩⟩,
 ⟨32,40,fun v A=>∃ (u42:Sl),v=.agg (Qc.c (⟨1,Qp.zero,[98,97,115,101,46,112,97,116,104],u42⟩:Qc)).toArray∧F90 u42 A,fun _ A B hAB ⟨u42,e,q0⟩=>⟨u42,e,hm115 _ A B hAB q0⟩⟩,
 ⟨34,42,fun v A=>∃ (u43:Qa),v=.agg (Qa.c u43).toArray∧F91 u43 A,fun _ A B hAB ⟨u43,e,q0⟩=>⟨u43,e,hm116 _ A B hAB q0⟩⟩,
 ⟨35,43,fun v A=>∃ (u45:Sl),v=slv u45∧F92 u45 A,fun _ A B hAB ⟨u45,e,q0⟩=>⟨u45,e,hm117 _ A B hAB q0⟩⟩,
 ⟨36,44,fun v A=>∃ (u46:Sl),v=.agg (Qc.c (⟨4,Qp.zero,[90],u46⟩:Qc)).toArray∧F92 u46 A,fun _ A B hAB ⟨u46,e,q0⟩=>⟨u46,e,hm117 _ A B hAB q0⟩⟩,
 ⟨37,45,fun v A=>∃ (u49:Sl),v=slv u49∧F93 u49 A,fun _ A B hAB ⟨u49,e,q0⟩=>⟨u49,e,hm118 _ A B hAB q0⟩⟩,
 ⟨38,46,fun v A=>∃ (u50:Sl) (u51:Sl) (u52:Sl),v=.agg (Qk.c (⟨Qp.zero,[112,97,116,104],u50,u51,u52⟩:Qk)).toArray∧F87 u50 A∧F88 u51 A∧F93 u52 A,fun _ A B hAB ⟨u50,u51,u52,e,q0,q1,q2⟩=>⟨u50,u51,u52,e,hm112 _ A B hAB q0,hm113 _ A B hAB q1,hm118 _ A B hAB q2⟩⟩,
 ⟨39,47,fun v A=>∃ (u56:Sl),v=slv u56∧F94 u56 A,fun _ A B hAB ⟨u56,e,q0⟩=>⟨u56,e,hm119 _ A B hAB q0⟩⟩,
 ⟨41,49,fun v A=>∃ (u57:Qa),v=.agg (Qa.c u57).toArray∧F95 u57 A,fun _ A B hAB ⟨u57,e,q0⟩=>⟨u57,e,hm120 _ A B hAB q0⟩⟩,
 ⟨43,51,fun v A=>∃ (u58:Qa),v=.agg (Qa.c u58).toArray∧F96 u58 A,fun _ A B hAB ⟨u58,e,q0⟩=>⟨u58,e,hm121 _ A B hAB q0⟩⟩,
 ⟨44,52,fun v A=>∃ (u61:Sl),v=slv u61∧F97 u61 A,fun _ A B hAB ⟨u61,e,q0⟩=>⟨u61,e,hm122 _ A B hAB q0⟩⟩,
 ⟨45,53,fun v A=>∃ (u62:Sl),v=.agg (Qc.c (⟨2,Qp.zero,[101,100,103,101],u62⟩:Qc)).toArray∧F97 u62 A,fun _ A B hAB ⟨u62,e,q0⟩=>⟨u62,e,hm122 _ A B hAB q0⟩⟩,
 ⟨47,55,fun v A=>∃ (u63:Sl),v=slv u63∧F98 u63 A,fun _ A B hAB ⟨u63,e,q0⟩=>⟨u63,e,hm123 _ A B hAB q0⟩⟩,
 ⟨48,56,fun v A=>∃ (u64:Sl),v=.agg (Qc.c (⟨3,Qp.zero,[],u64⟩:Qc)).toArray∧F98 u64 A,fun _ A B hAB ⟨u64,e,q0⟩=>⟨u64,e,hm123 _ A B hAB q0⟩⟩,
 ⟨49,57,fun v A=>∃ (u67:Sl),v=slv u67∧F99 u67 A,fun _ A B hAB ⟨u67,e,q0⟩=>⟨u67,e,hm124 _ A B hAB q0⟩⟩,
 ⟨50,58,fun v A=>∃ (u68:Sl),v=.agg (Ql.c (⟨Qp.zero,[108,111,111,112],u68⟩:Ql)).toArray∧F99 u68 A,fun _ A B hAB ⟨u68,e,q0⟩=>⟨u68,e,hm124 _ A B hAB q0⟩⟩,
 ⟨51,59,fun v A=>∃ (u70:Sl),v=slv u70∧F100 u70 A,fun _ A B hAB ⟨u70,e,q0⟩=>⟨u70,e,hm125 _ A B hAB q0⟩⟩,
 ⟨52,60,fun v A=>∃ (u71:Sl) (u72:Sl) (u73:Sl) (u74:Sl) (u75:Sl),v=.agg (Qg.c (⟨[103,114,97,112,104],u71,u72,u73,u74,u75⟩:Qg)).toArray∧F77 u71 A∧F82 u72 A∧F84 u73 A∧F94 u74 A∧F100 u75 A,fun _ A B hAB ⟨u71,u72,u73,u74,u75,e,q0,q1,q2,q3,q4⟩=>⟨u71,u72,u73,u74,u75,e,hm102 _ A B hAB q0,hm107 _ A B hAB q1,hm109 _ A B hAB q2,hm119 _ A B hAB q3,hm125 _ A B hAB q4⟩⟩,
 ⟨53,3,fun v A=>∃ (u76:Nat×Nat),v=pv (some u76)∧F101 u76 A,fun _ A B hAB ⟨u76,e,q0⟩=>⟨u76,e,hm126 _ A B hAB q0⟩⟩] (by kernel_rfl) hle9 ?_ ?_
 refine List.forall_mem_cons.2 ⟨⟨_,rfl,fun D l' hD hdep hfr=>?_⟩,List.forall_mem_cons.2 ⟨⟨_,rfl,fun D l' hD hdep hfr=>?_⟩,List.forall_mem_cons.2 ⟨⟨_,rfl,fun D l' hD hdep hfr=>?_⟩,List.forall_mem_cons.2 ⟨⟨_,rfl,fun D l' hD hdep hfr=>?_⟩,List.forall_mem_cons.2 ⟨⟨_,rfl,fun D l' hD hdep hfr=>?_⟩,List.forall_mem_cons.2 ⟨⟨_,rfl,fun D l' hD hdep hfr=>?_⟩,List.forall_mem_cons.2 ⟨⟨_,rfl,fun D l' hD hdep hfr=>?_⟩,List.forall_mem_cons.2 ⟨⟨_,rfl,fun D l' hD hdep hfr=>?_⟩,List.forall_mem_cons.2 ⟨⟨_,rfl,fun D l' hD hdep hfr=>?_⟩,List.forall_mem_cons.2 ⟨⟨_,rfl,fun D l' hD hdep hfr=>?_⟩,List.forall_mem_cons.2 ⟨⟨_,rfl,fun D l' hD hdep hfr=>?_⟩,List.forall_mem_cons.2 ⟨⟨_,rfl,fun D l' hD hdep hfr=>?_⟩,List.forall_mem_cons.2 ⟨⟨_,rfl,fun D l' hD hdep hfr=>?_⟩,List.forall_mem_cons.2 ⟨⟨_,rfl,fun D l' hD hdep hfr=>?_⟩,List.forall_mem_cons.2 ⟨⟨_,rfl,fun D l' hD hdep hfr=>?_⟩,List.forall_mem_cons.2 ⟨⟨_,rfl,fun D l' hD hdep hfr=>?_⟩,List.forall_mem_cons.2 ⟨⟨_,rfl,fun D l' hD hdep hfr=>?_⟩,List.forall_mem_cons.2 ⟨⟨_,rfl,fun D l' hD hdep hfr=>?_⟩,List.forall_mem_cons.2 ⟨⟨_,rfl,fun D l' hD hdep hfr=>?_⟩,List.forall_mem_cons.2 ⟨⟨_,rfl,fun D l' hD hdep hfr=>?_⟩,List.forall_mem_cons.2 ⟨⟨_,rfl,fun D l' hD hdep hfr=>?_⟩,List.forall_mem_cons.2 ⟨⟨_,rfl,fun D l' hD hdep hfr=>?_⟩,List.forall_mem_cons.2 ⟨⟨_,rfl,fun D l' hD hdep hfr=>?_⟩,List.forall_mem_cons.2 ⟨⟨_,rfl,fun D l' hD hdep hfr=>?_⟩,List.forall_mem_cons.2 ⟨⟨_,rfl,fun D l' hD hdep hfr=>?_⟩,List.forall_mem_cons.2 ⟨⟨_,rfl,fun D l' hD hdep hfr=>?_⟩,List.forall_mem_cons.2 ⟨⟨_,rfl,fun D l' hD hdep hfr=>?_⟩,List.forall_mem_cons.2 ⟨⟨_,rfl,fun D l' hD hdep hfr=>?_⟩,List.forall_mem_cons.2 ⟨⟨_,rfl,fun D l' hD hdep hfr=>?_⟩,List.forall_mem_cons.2 ⟨⟨_,rfl,fun D l' hD hdep hfr=>?_⟩,List.forall_mem_cons.2 ⟨⟨_,rfl,fun D l' hD hdep hfr=>?_⟩,List.forall_mem_cons.2 ⟨⟨_,rfl,fun D l' hD hdep hfr=>?_⟩,List.forall_mem_cons.2 ⟨⟨_,rfl,fun D l' hD hdep hfr=>?_⟩,List.forall_mem_cons.2 ⟨⟨_,rfl,fun D l' hD hdep hfr=>?_⟩,List.forall_mem_cons.2 ⟨⟨_,rfl,fun D l' hD hdep hfr=>?_⟩,List.forall_mem_cons.2 ⟨⟨_,rfl,fun D l' hD hdep hfr=>?_⟩,List.forall_mem_cons.2 ⟨⟨_,rfl,fun D l' hD hdep hfr=>?_⟩,(fun _ h=>by cases h)⟩⟩⟩⟩⟩⟩⟩⟩⟩⟩⟩⟩⟩⟩⟩⟩⟩⟩⟩⟩⟩⟩⟩⟩⟩⟩⟩⟩⟩⟩⟩⟩⟩⟩⟩⟩⟩
 refine ⟨[(8,.agg (Qn.c (⟨Qp.zero,[98,97,115,101]⟩:Qn)).toArray)],⟨(hfr 8 rfl).trans rfl,trivial⟩,?_⟩
 have h:=ho127 D hD
 refine GL.buildSlice (cs:=(Qn.c (⟨Qp.zero,[98,97,115,101]⟩:Qn))++[]) h trivial rfl (vs:=[(0,.agg (Qn.c (⟨Qp.zero,[98,97,115,101]⟩:Qn)).toArray)]) rfl ⟨77,fun _=>by kernel_rfl⟩ ?_
 intro b152 H153 h
 obtain ⟨hle154,h⟩:=h
 exact GL.un_end hle154 ⟨(Sl.of (some (b152,0)) 1 1),rfl,h⟩
 refine ⟨[],trivial,?_⟩
 have h:=ho128 D hD
 refine GL.buildSlice (cs:=[sv [39,97]]) h trivial rfl (vs:=[(0,sv [39,97])]) rfl ⟨9,fun _=>by kernel_rfl⟩ ?_
 intro b155 H156 h
 obtain ⟨hle157,h⟩:=h
 exact GL.un_end hle157 ⟨(Sl.of (some (b155,0)) 1 1),rfl,h⟩
 refine ⟨[(14,.agg (Qe.c x12).toArray)],⟨(hfr 14 rfl).trans rfl,trivial⟩,?_⟩
 have h:=ho129 D hD
 refine GL.buildSlice (cs:=(Qe.c x12)++[]) h trivial rfl (vs:=[(0,.agg (Qe.c x12).toArray)]) rfl ⟨75,fun _=>by kernel_rfl⟩ ?_
 intro b158 H159 h
 obtain ⟨hle160,h⟩:=h
 exact GL.un_end hle160 ⟨(Sl.of (some (b158,0)) 1 1),rfl,h⟩
 obtain ⟨_,hv161,u17,rfl,hw162⟩:=hdep _ (List.Mem.tail _ (List.Mem.tail _ (List.Mem.head _))) (by kernel_rfl)
 refine ⟨[(15,slv u17)],⟨hv161,trivial⟩,(Zv (OV.build (vs:=[(0,sv [108,105,115,116]),(1,slv u17)]) (v:=.agg (Qe.c (⟨[108,105,115,116],u17⟩:Qe)).toArray) rfl (fun _=>by kernel_rfl)) ?_)⟩
 exact GL.un_end (Heap.le.refl _) ⟨u17,rfl,hw162⟩
 obtain ⟨_,hv163,u18,rfl,hw164⟩:=hdep _ (List.Mem.tail _ (List.Mem.tail _ (List.Mem.tail _ (List.Mem.head _)))) (by kernel_rfl)
 refine ⟨[(16,.agg (Qe.c (⟨[108,105,115,116],u18⟩:Qe)).toArray)],⟨hv163,trivial⟩,(Zv (OV.build (vs:=[(1,.agg (Qe.c (⟨[108,105,115,116],u18⟩:Qe)).toArray)]) (v:=.agg (Qd.c (⟨[],(⟨[108,105,115,116],u18⟩:Qe)⟩:Qd)).toArray) rfl (fun _=>by kernel_rfl)) ?_)⟩
 exact GL.un_end (Heap.le.refl _) ⟨u18,rfl,hw164⟩
 obtain ⟨_,hv165,u19,rfl,hw166⟩:=hdep _ (List.Mem.tail _ (List.Mem.tail _ (List.Mem.tail _ (List.Mem.tail _ (List.Mem.head _))))) (by kernel_rfl)
 refine ⟨[(17,.agg (Qd.c (⟨[],(⟨[108,105,115,116],u19⟩:Qe)⟩:Qd)).toArray),(13,.agg (Qd.c (⟨[104,101,97,100],x10⟩:Qd)).toArray)],⟨hv165,(hfr 13 rfl).trans rfl,trivial⟩,?_⟩
 have h:=ho130 D hD u19 hw166
 refine GL.buildSlice (cs:=(Qd.c (⟨[104,101,97,100],x10⟩:Qd))++(Qd.c (⟨[],(⟨[108,105,115,116],u19⟩:Qe)⟩:Qd))++[]) h trivial rfl (vs:=[(0,.agg (Qd.c (⟨[104,101,97,100],x10⟩:Qd)).toArray),(1,.agg (Qd.c (⟨[],(⟨[108,105,115,116],u19⟩:Qe)⟩:Qd)).toArray)]) rfl ⟨79,fun _=>by kernel_rfl⟩ ?_
 intro b167 H168 h
 obtain ⟨hle169,h⟩:=h
 exact GL.un_end hle169 ⟨(Sl.of (some (b167,0)) 2 2),rfl,h⟩
 obtain ⟨_,hv170,u21,rfl,hw171⟩:=hdep _ (List.Mem.tail _ (List.Mem.tail _ (List.Mem.tail _ (List.Mem.tail _ (List.Mem.tail _ (List.Mem.head _)))))) (by kernel_rfl)
 refine ⟨[(18,slv u21)],⟨hv170,trivial⟩,(Zv (OV.build (vs:=[(0,sv [99,111,110,115]),(1,slv u21)]) (v:=.agg (Qh.c (⟨[99,111,110,115],u21⟩:Qh)).toArray) rfl (fun _=>by kernel_rfl)) ?_)⟩
 exact GL.un_end (Heap.le.refl _) ⟨u21,rfl,hw171⟩
 obtain ⟨_,hv172,u22,rfl,hw173⟩:=hdep _ (List.Mem.tail _ (List.Mem.tail _ (List.Mem.tail _ (List.Mem.tail _ (List.Mem.tail _ (List.Mem.tail _ (List.Mem.head _))))))) (by kernel_rfl)
 refine ⟨[(19,.agg (Qh.c (⟨[99,111,110,115],u22⟩:Qh)).toArray),(11,.agg (Qh.c (⟨[110,105,108],Sl.nil⟩:Qh)).toArray)],⟨hv172,(hfr 11 rfl).trans rfl,trivial⟩,?_⟩
 have h:=ho131 D hD u22 hw173
 refine GL.buildSlice (cs:=(Qh.c (⟨[110,105,108],Sl.nil⟩:Qh))++(Qh.c (⟨[99,111,110,115],u22⟩:Qh))++[]) h trivial rfl (vs:=[(0,.agg (Qh.c (⟨[110,105,108],Sl.nil⟩:Qh)).toArray),(1,.agg (Qh.c (⟨[99,111,110,115],u22⟩:Qh)).toArray)]) rfl ⟨68,fun _=>by kernel_rfl⟩ ?_
 intro b174 H175 h
 obtain ⟨hle176,h⟩:=h
 exact GL.un_end hle176 ⟨(Sl.of (some (b174,0)) 2 2),rfl,h⟩
 obtain ⟨_,hv177,u24,rfl,hw178⟩:=hdep _ (List.Mem.tail _ (List.Mem.head _)) (by kernel_rfl)
 obtain ⟨_,hv179,u25,rfl,hw180⟩:=hdep _ (List.Mem.tail _ (List.Mem.tail _ (List.Mem.tail _ (List.Mem.tail _ (List.Mem.tail _ (List.Mem.tail _ (List.Mem.tail _ (List.Mem.head _)))))))) (by kernel_rfl)
 refine ⟨[(10,slv u24),(20,slv u25)],⟨hv177,hv179,trivial⟩,(Zv (OV.build (vs:=[(1,.bool true),(2,sv [108,105,115,116]),(3,slv u24),(4,slv u25)]) (v:=.agg (Qf.c (⟨Qp.zero,true,[108,105,115,116],u24,u25⟩:Qf)).toArray) rfl (fun _=>by kernel_rfl)) ?_)⟩
 exact GL.un_end (Heap.le.refl _) ⟨u24,u25,rfl,hw178,hw180⟩
 obtain ⟨_,hv181,u26,u27,rfl,hw182,hw183⟩:=hdep _ (List.Mem.tail _ (List.Mem.tail _ (List.Mem.tail _ (List.Mem.tail _ (List.Mem.tail _ (List.Mem.tail _ (List.Mem.tail _ (List.Mem.tail _ (List.Mem.head _))))))))) (by kernel_rfl)
 refine ⟨[(21,.agg (Qf.c (⟨Qp.zero,true,[108,105,115,116],u26,u27⟩:Qf)).toArray)],⟨hv181,trivial⟩,?_⟩
 have h:=ho132 D hD u26 u27 hw182 hw183
 refine GL.buildSlice (cs:=(Qf.c (⟨Qp.zero,true,[108,105,115,116],u26,u27⟩:Qf))++[]) h trivial rfl (vs:=[(0,.agg (Qf.c (⟨Qp.zero,true,[108,105,115,116],u26,u27⟩:Qf)).toArray)]) rfl ⟨64,fun _=>by kernel_rfl⟩ ?_
 intro b184 H185 h
 obtain ⟨hle186,h⟩:=h
 exact GL.un_end hle186 ⟨(Sl.of (some (b184,0)) 1 1),rfl,h⟩
 refine ⟨[(24,.agg (Qd.c (⟨[102,114,111,109],(⟨[105,110,116],Sl.nil⟩:Qe)⟩:Qd)).toArray),(26,.agg (Qd.c (⟨[116,111],(⟨[105,110,116],Sl.nil⟩:Qe)⟩:Qd)).toArray)],⟨(hfr 24 rfl).trans rfl,(hfr 26 rfl).trans rfl,trivial⟩,?_⟩
 have h:=ho133 D hD
 refine GL.buildSlice (cs:=(Qd.c (⟨[102,114,111,109],(⟨[105,110,116],Sl.nil⟩:Qe)⟩:Qd))++(Qd.c (⟨[116,111],(⟨[105,110,116],Sl.nil⟩:Qe)⟩:Qd))++[]) h trivial rfl (vs:=[(0,.agg (Qd.c (⟨[102,114,111,109],(⟨[105,110,116],Sl.nil⟩:Qe)⟩:Qd)).toArray),(1,.agg (Qd.c (⟨[116,111],(⟨[105,110,116],Sl.nil⟩:Qe)⟩:Qd)).toArray)]) rfl ⟨79,fun _=>by kernel_rfl⟩ ?_
 intro b187 H188 h
 obtain ⟨hle189,h⟩:=h
 exact GL.un_end hle189 ⟨(Sl.of (some (b187,0)) 2 2),rfl,h⟩
 obtain ⟨_,hv190,u30,rfl,hw191⟩:=hdep _ (List.Mem.tail _ (List.Mem.tail _ (List.Mem.tail _ (List.Mem.tail _ (List.Mem.tail _ (List.Mem.tail _ (List.Mem.tail _ (List.Mem.tail _ (List.Mem.tail _ (List.Mem.tail _ (List.Mem.head _))))))))))) (by kernel_rfl)
 refine ⟨[(27,slv u30)],⟨hv190,trivial⟩,(Zv (OV.build (vs:=[(1,.bool true),(2,.bool true),(3,sv [101,100,103,101]),(4,slv u30)]) (v:=.agg (Qi.c (⟨Qp.zero,true,true,[101,100,103,101],u30⟩:Qi)).toArray) rfl (fun _=>by kernel_rfl)) ?_)⟩
 exact GL.un_end (Heap.le.refl _) ⟨u30,rfl,hw191⟩
 obtain ⟨_,hv192,u31,rfl,hw193⟩:=hdep _ (List.Mem.tail _ (List.Mem.tail _ (List.Mem.tail _ (List.Mem.tail _ (List.Mem.tail _ (List.Mem.tail _ (List.Mem.tail _ (List.Mem.tail _ (List.Mem.tail _ (List.Mem.tail _ (List.Mem.tail _ (List.Mem.head _)))))))))))) (by kernel_rfl)
 refine ⟨[(28,.agg (Qi.c (⟨Qp.zero,true,true,[101,100,103,101],u31⟩:Qi)).toArray)],⟨hv192,trivial⟩,?_⟩
 have h:=ho134 D hD u31 hw193
 refine GL.buildSlice (cs:=(Qi.c (⟨Qp.zero,true,true,[101,100,103,101],u31⟩:Qi))++[]) h trivial rfl (vs:=[(0,.agg (Qi.c (⟨Qp.zero,true,true,[101,100,103,101],u31⟩:Qi)).toArray)]) rfl ⟨70,fun _=>by kernel_rfl⟩ ?_
 intro b194 H195 h
 obtain ⟨hle196,h⟩:=h
 exact GL.un_end hle196 ⟨(Sl.of (some (b194,0)) 1 1),rfl,h⟩
 refine ⟨[(30,.func (.func 23) (List.toArray []) (List.toArray []))],⟨(hfr 30 rfl).trans rfl,trivial⟩,?_⟩
 have h:=ho135 D hD
 refine GL.callV (fs:=[]) (vs:=[sv [88]]) (cs:=[]) h trivial rfl QaA rfl rfl ?_
 rintro _ H198 ⟨r197,rfl,h⟩
 obtain ⟨hle199,h⟩:=h
 exact GL.un_end hle199 ⟨r197,rfl,h⟩
 refine ⟨[(32,.func (.func 23) (List.toArray []) (List.toArray []))],⟨(hfr 32 rfl).trans rfl,trivial⟩,?_⟩
 have h:=ho136 D hD
 refine GL.callV (fs:=[]) (vs:=[sv [90]]) (cs:=[]) h trivial rfl QaA rfl rfl ?_
 rintro _ H201 ⟨r200,rfl,h⟩
 obtain ⟨hle202,h⟩:=h
 exact GL.un_end hle202 ⟨r200,rfl,h⟩
 obtain ⟨_,hv203,u35,rfl,hw204⟩:=hdep _ (List.Mem.tail _ (List.Mem.tail _ (List.Mem.tail _ (List.Mem.tail _ (List.Mem.tail _ (List.Mem.tail _ (List.Mem.tail _ (List.Mem.tail _ (List.Mem.tail _ (List.Mem.tail _ (List.Mem.tail _ (List.Mem.tail _ (List.Mem.tail _ (List.Mem.head _)))))))))))))) (by kernel_rfl)
 obtain ⟨_,hv205,u36,rfl,hw206⟩:=hdep _ (List.Mem.tail _ (List.Mem.tail _ (List.Mem.tail _ (List.Mem.tail _ (List.Mem.tail _ (List.Mem.tail _ (List.Mem.tail _ (List.Mem.tail _ (List.Mem.tail _ (List.Mem.tail _ (List.Mem.tail _ (List.Mem.tail _ (List.Mem.tail _ (List.Mem.tail _ (List.Mem.head _))))))))))))))) (by kernel_rfl)
 refine ⟨[(31,.agg (Qa.c u35).toArray),(33,.agg (Qa.c u36).toArray)],⟨hv203,hv205,trivial⟩,?_⟩
 have h:=ho137 D hD u35 u36 hw204 hw206
 refine GL.buildSlice (cs:=(Qa.c u35)++(Qa.c u36)++[]) h trivial rfl (vs:=[(0,.agg (Qa.c u35).toArray),(1,.agg (Qa.c u36).toArray)]) rfl ⟨47,fun _=>by kernel_rfl⟩ ?_
 intro b207 H208 h
 obtain ⟨hle209,h⟩:=h
 exact GL.un_end hle209 ⟨(Sl.of (some (b207,0)) 2 2),rfl,h⟩
 refine ⟨[],trivial,?_⟩
 have h:=ho138 D hD
 refine GL.buildSlice (cs:=[sv [],sv [99,111,117,110,116]]) h trivial rfl (vs:=[(0,sv []),(1,sv [99,111,117,110,116])]) rfl ⟨9,fun _=>by kernel_rfl⟩ ?_
 intro b210 H211 h
 obtain ⟨hle212,h⟩:=h
 exact GL.un_end hle212 ⟨(Sl.of (some (b210,0)) 2 2),rfl,h⟩
 refine ⟨[(36,.func (.func 23) (List.toArray []) (List.toArray []))],⟨(hfr 36 rfl).trans rfl,trivial⟩,?_⟩
 have h:=ho139 D hD
 refine GL.callV (fs:=[]) (vs:=[sv [88]]) (cs:=[]) h trivial rfl QaA rfl rfl ?_
 rintro _ H214 ⟨r213,rfl,h⟩
 obtain ⟨hle215,h⟩:=h
 exact GL.un_end hle215 ⟨r213,rfl,h⟩
 obtain ⟨_,hv216,u40,rfl,hw217⟩:=hdep _ (List.Mem.tail _ (List.Mem.tail _ (List.Mem.tail _ (List.Mem.tail _ (List.Mem.tail _ (List.Mem.tail _ (List.Mem.tail _ (List.Mem.tail _ (List.Mem.tail _ (List.Mem.tail _ (List.Mem.tail _ (List.Mem.tail _ (List.Mem.tail _ (List.Mem.tail _ (List.Mem.tail _ (List.Mem.tail _ (List.Mem.tail _ (List.Mem.head _)))))))))))))))))) (by kernel_rfl)
 refine ⟨[(37,.agg (Qa.c u40).toArray),(38,.agg (Qa.c (⟨3,Qp.zero,[],Qb.zero,Sl.nil⟩:Qa)).toArray)],⟨hv216,(hfr 38 rfl).trans rfl,trivial⟩,?_⟩
 have h:=ho140 D hD u40 hw217
 refine GL.buildSlice (cs:=(Qa.c u40)++(Qa.c (⟨3,Qp.zero,[],Qb.zero,Sl.nil⟩:Qa))++[]) h trivial rfl (vs:=[(0,.agg (Qa.c u40).toArray),(1,.agg (Qa.c (⟨3,Qp.zero,[],Qb.zero,Sl.nil⟩:Qa)).toArray)]) rfl ⟨47,fun _=>by kernel_rfl⟩ ?_
 intro b218 H219 h
 obtain ⟨hle220,h⟩:=h
 exact GL.un_end hle220 ⟨(Sl.of (some (b218,0)) 2 2),rfl,h⟩
 obtain ⟨_,hv221,u42,rfl,hw222⟩:=hdep _ (List.Mem.tail _ (List.Mem.tail _ (List.Mem.tail _ (List.Mem.tail _ (List.Mem.tail _ (List.Mem.tail _ (List.Mem.tail _ (List.Mem.tail _ (List.Mem.tail _ (List.Mem.tail _ (List.Mem.tail _ (List.Mem.tail _ (List.Mem.tail _ (List.Mem.tail _ (List.Mem.tail _ (List.Mem.tail _ (List.Mem.tail _ (List.Mem.tail _ (List.Mem.head _))))))))))))))))))) (by kernel_rfl)
 refine ⟨[(39,slv u42)],⟨hv221,trivial⟩,(Zv (OV.build (vs:=[(0,.int .u8 1),(2,sv [98,97,115,101,46,112,97,116,104]),(3,slv u42)]) (v:=.agg (Qc.c (⟨1,Qp.zero,[98,97,115,101,46,112,97,116,104],u42⟩:Qc)).toArray) rfl (fun _=>by kernel_rfl)) ?_)⟩
 exact GL.un_end (Heap.le.refl _) ⟨u42,rfl,hw222⟩
 refine ⟨[(41,.func (.func 23) (List.toArray []) (List.toArray []))],⟨(hfr 41 rfl).trans rfl,trivial⟩,?_⟩
 have h:=ho141 D hD
 refine GL.callV (fs:=[]) (vs:=[sv [88]]) (cs:=[]) h trivial rfl QaA rfl rfl ?_
 rintro _ H224 ⟨r223,rfl,h⟩
 obtain ⟨hle225,h⟩:=h
 exact GL.un_end hle225 ⟨r223,rfl,h⟩
 obtain ⟨_,hv226,u44,rfl,hw227⟩:=hdep _ (List.Mem.tail _ (List.Mem.tail _ (List.Mem.tail _ (List.Mem.tail _ (List.Mem.tail _ (List.Mem.tail _ (List.Mem.tail _ (List.Mem.tail _ (List.Mem.tail _ (List.Mem.tail _ (List.Mem.tail _ (List.Mem.tail _ (List.Mem.tail _ (List.Mem.tail _ (List.Mem.tail _ (List.Mem.tail _ (List.Mem.tail _ (List.Mem.tail _ (List.Mem.tail _ (List.Mem.tail _ (List.Mem.head _))))))))))))))))))))) (by kernel_rfl)
 refine ⟨[(42,.agg (Qa.c u44).toArray)],⟨hv226,trivial⟩,?_⟩
 have h:=ho142 D hD u44 hw227
 refine GL.buildSlice (cs:=(Qa.c u44)++[]) h trivial rfl (vs:=[(0,.agg (Qa.c u44).toArray)]) rfl ⟨47,fun _=>by kernel_rfl⟩ ?_
 intro b228 H229 h
 obtain ⟨hle230,h⟩:=h
 exact GL.un_end hle230 ⟨(Sl.of (some (b228,0)) 1 1),rfl,h⟩
 obtain ⟨_,hv231,u46,rfl,hw232⟩:=hdep _ (List.Mem.tail _ (List.Mem.tail _ (List.Mem.tail _ (List.Mem.tail _ (List.Mem.tail _ (List.Mem.tail _ (List.Mem.tail _ (List.Mem.tail _ (List.Mem.tail _ (List.Mem.tail _ (List.Mem.tail _ (List.Mem.tail _ (List.Mem.tail _ (List.Mem.tail _ (List.Mem.tail _ (List.Mem.tail _ (List.Mem.tail _ (List.Mem.tail _ (List.Mem.tail _ (List.Mem.tail _ (List.Mem.tail _ (List.Mem.head _)))))))))))))))))))))) (by kernel_rfl)
 refine ⟨[(43,slv u46)],⟨hv231,trivial⟩,(Zv (OV.build (vs:=[(0,.int .u8 4),(2,sv [90]),(3,slv u46)]) (v:=.agg (Qc.c (⟨4,Qp.zero,[90],u46⟩:Qc)).toArray) rfl (fun _=>by kernel_rfl)) ?_)⟩
 exact GL.un_end (Heap.le.refl _) ⟨u46,rfl,hw232⟩
 obtain ⟨_,hv233,u47,rfl,hw234⟩:=hdep _ (List.Mem.tail _ (List.Mem.tail _ (List.Mem.tail _ (List.Mem.tail _ (List.Mem.tail _ (List.Mem.tail _ (List.Mem.tail _ (List.Mem.tail _ (List.Mem.tail _ (List.Mem.tail _ (List.Mem.tail _ (List.Mem.tail _ (List.Mem.tail _ (List.Mem.tail _ (List.Mem.tail _ (List.Mem.tail _ (List.Mem.tail _ (List.Mem.tail _ (List.Mem.tail _ (List.Mem.head _)))))))))))))))))))) (by kernel_rfl)
 obtain ⟨_,hv235,u48,rfl,hw236⟩:=hdep _ (List.Mem.tail _ (List.Mem.tail _ (List.Mem.tail _ (List.Mem.tail _ (List.Mem.tail _ (List.Mem.tail _ (List.Mem.tail _ (List.Mem.tail _ (List.Mem.tail _ (List.Mem.tail _ (List.Mem.tail _ (List.Mem.tail _ (List.Mem.tail _ (List.Mem.tail _ (List.Mem.tail _ (List.Mem.tail _ (List.Mem.tail _ (List.Mem.tail _ (List.Mem.tail _ (List.Mem.tail _ (List.Mem.tail _ (List.Mem.tail _ (List.Mem.head _))))))))))))))))))))))) (by kernel_rfl)
 refine ⟨[(40,.agg (Qc.c (⟨1,Qp.zero,[98,97,115,101,46,112,97,116,104],u47⟩:Qc)).toArray),(44,.agg (Qc.c (⟨4,Qp.zero,[90],u48⟩:Qc)).toArray)],⟨hv233,hv235,trivial⟩,?_⟩
 have h:=ho143 D hD u47 u48 hw234 hw236
 refine GL.buildSlice (cs:=(Qc.c (⟨1,Qp.zero,[98,97,115,101,46,112,97,116,104],u47⟩:Qc))++(Qc.c (⟨4,Qp.zero,[90],u48⟩:Qc))++[]) h trivial rfl (vs:=[(0,.agg (Qc.c (⟨1,Qp.zero,[98,97,115,101,46,112,97,116,104],u47⟩:Qc)).toArray),(1,.agg (Qc.c (⟨4,Qp.zero,[90],u48⟩:Qc)).toArray)]) rfl ⟨56,fun _=>by kernel_rfl⟩ ?_
 intro b237 H238 h
 obtain ⟨hle239,h⟩:=h
 exact GL.un_end hle239 ⟨(Sl.of (some (b237,0)) 2 2),rfl,h⟩
 obtain ⟨_,hv240,u50,rfl,hw241⟩:=hdep _ (List.Mem.tail _ (List.Mem.tail _ (List.Mem.tail _ (List.Mem.tail _ (List.Mem.tail _ (List.Mem.tail _ (List.Mem.tail _ (List.Mem.tail _ (List.Mem.tail _ (List.Mem.tail _ (List.Mem.tail _ (List.Mem.tail _ (List.Mem.tail _ (List.Mem.tail _ (List.Mem.tail _ (List.Mem.head _)))))))))))))))) (by kernel_rfl)
 obtain ⟨_,hv242,u51,rfl,hw243⟩:=hdep _ (List.Mem.tail _ (List.Mem.tail _ (List.Mem.tail _ (List.Mem.tail _ (List.Mem.tail _ (List.Mem.tail _ (List.Mem.tail _ (List.Mem.tail _ (List.Mem.tail _ (List.Mem.tail _ (List.Mem.tail _ (List.Mem.tail _ (List.Mem.tail _ (List.Mem.tail _ (List.Mem.tail _ (List.Mem.tail _ (List.Mem.head _))))))))))))))))) (by kernel_rfl)
 obtain ⟨_,hv244,u52,rfl,hw245⟩:=hdep _ (List.Mem.tail _ (List.Mem.tail _ (List.Mem.tail _ (List.Mem.tail _ (List.Mem.tail _ (List.Mem.tail _ (List.Mem.tail _ (List.Mem.tail _ (List.Mem.tail _ (List.Mem.tail _ (List.Mem.tail _ (List.Mem.tail _ (List.Mem.tail _ (List.Mem.tail _ (List.Mem.tail _ (List.Mem.tail _ (List.Mem.tail _ (List.Mem.tail _ (List.Mem.tail _ (List.Mem.tail _ (List.Mem.tail _ (List.Mem.tail _ (List.Mem.tail _ (List.Mem.head _)))))))))))))))))))))))) (by kernel_rfl)
 refine ⟨[(34,slv u50),(35,slv u51),(45,slv u52)],⟨hv240,hv242,hv244,trivial⟩,(Zv (OV.build (vs:=[(1,sv [112,97,116,104]),(2,slv u50),(3,slv u51),(4,slv u52)]) (v:=.agg (Qk.c (⟨Qp.zero,[112,97,116,104],u50,u51,u52⟩:Qk)).toArray) rfl (fun _=>by kernel_rfl)) ?_)⟩
 exact GL.un_end (Heap.le.refl _) ⟨u50,u51,u52,rfl,hw241,hw243,hw245⟩
 obtain ⟨_,hv246,u53,u54,u55,rfl,hw247,hw248,hw249⟩:=hdep _ (List.Mem.tail _ (List.Mem.tail _ (List.Mem.tail _ (List.Mem.tail _ (List.Mem.tail _ (List.Mem.tail _ (List.Mem.tail _ (List.Mem.tail _ (List.Mem.tail _ (List.Mem.tail _ (List.Mem.tail _ (List.Mem.tail _ (List.Mem.tail _ (List.Mem.tail _ (List.Mem.tail _ (List.Mem.tail _ (List.Mem.tail _ (List.Mem.tail _ (List.Mem.tail _ (List.Mem.tail _ (List.Mem.tail _ (List.Mem.tail _ (List.Mem.tail _ (List.Mem.tail _ (List.Mem.head _))))))))))))))))))))))))) (by kernel_rfl)
 refine ⟨[(46,.agg (Qk.c (⟨Qp.zero,[112,97,116,104],u53,u54,u55⟩:Qk)).toArray)],⟨hv246,trivial⟩,?_⟩
 have h:=ho144 D hD u53 u54 u55 hw247 hw248 hw249
 refine GL.buildSlice (cs:=(Qk.c (⟨Qp.zero,[112,97,116,104],u53,u54,u55⟩:Qk))++[]) h trivial rfl (vs:=[(0,.agg (Qk.c (⟨Qp.zero,[112,97,116,104],u53,u54,u55⟩:Qk)).toArray)]) rfl ⟨54,fun _=>by kernel_rfl⟩ ?_
 intro b250 H251 h
 obtain ⟨hle252,h⟩:=h
 exact GL.un_end hle252 ⟨(Sl.of (some (b250,0)) 1 1),rfl,h⟩
 refine ⟨[(48,.func (.func 23) (List.toArray []) (List.toArray []))],⟨(hfr 48 rfl).trans rfl,trivial⟩,?_⟩
 have h:=ho145 D hD
 refine GL.callV (fs:=[]) (vs:=[sv [88]]) (cs:=[]) h trivial rfl QaA rfl rfl ?_
 rintro _ H254 ⟨r253,rfl,h⟩
 obtain ⟨hle255,h⟩:=h
 exact GL.un_end hle255 ⟨r253,rfl,h⟩
 refine ⟨[(50,.func (.func 23) (List.toArray []) (List.toArray []))],⟨(hfr 50 rfl).trans rfl,trivial⟩,?_⟩
 have h:=ho146 D hD
 refine GL.callV (fs:=[]) (vs:=[sv [88]]) (cs:=[]) h trivial rfl QaA rfl rfl ?_
 rintro _ H257 ⟨r256,rfl,h⟩
 obtain ⟨hle258,h⟩:=h
 exact GL.un_end hle258 ⟨r256,rfl,h⟩
 obtain ⟨_,hv259,u59,rfl,hw260⟩:=hdep _ (List.Mem.tail _ (List.Mem.tail _ (List.Mem.tail _ (List.Mem.tail _ (List.Mem.tail _ (List.Mem.tail _ (List.Mem.tail _ (List.Mem.tail _ (List.Mem.tail _ (List.Mem.tail _ (List.Mem.tail _ (List.Mem.tail _ (List.Mem.tail _ (List.Mem.tail _ (List.Mem.tail _ (List.Mem.tail _ (List.Mem.tail _ (List.Mem.tail _ (List.Mem.tail _ (List.Mem.tail _ (List.Mem.tail _ (List.Mem.tail _ (List.Mem.tail _ (List.Mem.tail _ (List.Mem.tail _ (List.Mem.tail _ (List.Mem.head _))))))))))))))))))))))))))) (by kernel_rfl)
 obtain ⟨_,hv261,u60,rfl,hw262⟩:=hdep _ (List.Mem.tail _ (List.Mem.tail _ (List.Mem.tail _ (List.Mem.tail _ (List.Mem.tail _ (List.Mem.tail _ (List.Mem.tail _ (List.Mem.tail _ (List.Mem.tail _ (List.Mem.tail _ (List.Mem.tail _ (List.Mem.tail _ (List.Mem.tail _ (List.Mem.tail _ (List.Mem.tail _ (List.Mem.tail _ (List.Mem.tail _ (List.Mem.tail _ (List.Mem.tail _ (List.Mem.tail _ (List.Mem.tail _ (List.Mem.tail _ (List.Mem.tail _ (List.Mem.tail _ (List.Mem.tail _ (List.Mem.tail _ (List.Mem.tail _ (List.Mem.head _)))))))))))))))))))))))))))) (by kernel_rfl)
 refine ⟨[(49,.agg (Qa.c u59).toArray),(51,.agg (Qa.c u60).toArray)],⟨hv259,hv261,trivial⟩,?_⟩
 have h:=ho147 D hD u59 u60 hw260 hw262
 refine GL.buildSlice (cs:=(Qa.c u59)++(Qa.c u60)++[]) h trivial rfl (vs:=[(0,.agg (Qa.c u59).toArray),(1,.agg (Qa.c u60).toArray)]) rfl ⟨47,fun _=>by kernel_rfl⟩ ?_
 intro b263 H264 h
 obtain ⟨hle265,h⟩:=h
 exact GL.un_end hle265 ⟨(Sl.of (some (b263,0)) 2 2),rfl,h⟩
 obtain ⟨_,hv266,u62,rfl,hw267⟩:=hdep _ (List.Mem.tail _ (List.Mem.tail _ (List.Mem.tail _ (List.Mem.tail _ (List.Mem.tail _ (List.Mem.tail _ (List.Mem.tail _ (List.Mem.tail _ (List.Mem.tail _ (List.Mem.tail _ (List.Mem.tail _ (List.Mem.tail _ (List.Mem.tail _ (List.Mem.tail _ (List.Mem.tail _ (List.Mem.tail _ (List.Mem.tail _ (List.Mem.tail _ (List.Mem.tail _ (List.Mem.tail _ (List.Mem.tail _ (List.Mem.tail _ (List.Mem.tail _ (List.Mem.tail _ (List.Mem.tail _ (List.Mem.tail _ (List.Mem.tail _ (List.Mem.tail _ (List.Mem.head _))))))))))))))))))))))))))))) (by kernel_rfl)
 refine ⟨[(52,slv u62)],⟨hv266,trivial⟩,(Zv (OV.build (vs:=[(0,.int .u8 2),(2,sv [101,100,103,101]),(3,slv u62)]) (v:=.agg (Qc.c (⟨2,Qp.zero,[101,100,103,101],u62⟩:Qc)).toArray) rfl (fun _=>by kernel_rfl)) ?_)⟩
 exact GL.un_end (Heap.le.refl _) ⟨u62,rfl,hw267⟩
 refine ⟨[(54,.agg (Qa.c (⟨5,Qp.zero,[110,105,108],Qb.zero,Sl.nil⟩:Qa)).toArray)],⟨(hfr 54 rfl).trans rfl,trivial⟩,?_⟩
 have h:=ho148 D hD
 refine GL.buildSlice (cs:=(Qa.c (⟨5,Qp.zero,[110,105,108],Qb.zero,Sl.nil⟩:Qa))++[]) h trivial rfl (vs:=[(0,.agg (Qa.c (⟨5,Qp.zero,[110,105,108],Qb.zero,Sl.nil⟩:Qa)).toArray)]) rfl ⟨47,fun _=>by kernel_rfl⟩ ?_
 intro b268 H269 h
 obtain ⟨hle270,h⟩:=h
 exact GL.un_end hle270 ⟨(Sl.of (some (b268,0)) 1 1),rfl,h⟩
 obtain ⟨_,hv271,u64,rfl,hw272⟩:=hdep _ (List.Mem.tail _ (List.Mem.tail _ (List.Mem.tail _ (List.Mem.tail _ (List.Mem.tail _ (List.Mem.tail _ (List.Mem.tail _ (List.Mem.tail _ (List.Mem.tail _ (List.Mem.tail _ (List.Mem.tail _ (List.Mem.tail _ (List.Mem.tail _ (List.Mem.tail _ (List.Mem.tail _ (List.Mem.tail _ (List.Mem.tail _ (List.Mem.tail _ (List.Mem.tail _ (List.Mem.tail _ (List.Mem.tail _ (List.Mem.tail _ (List.Mem.tail _ (List.Mem.tail _ (List.Mem.tail _ (List.Mem.tail _ (List.Mem.tail _ (List.Mem.tail _ (List.Mem.tail _ (List.Mem.tail _ (List.Mem.head _))))))))))))))))))))))))))))))) (by kernel_rfl)
 refine ⟨[(55,slv u64)],⟨hv271,trivial⟩,(Zv (OV.build (vs:=[(0,.int .u8 3),(3,slv u64)]) (v:=.agg (Qc.c (⟨3,Qp.zero,[],u64⟩:Qc)).toArray) rfl (fun _=>by kernel_rfl)) ?_)⟩
 exact GL.un_end (Heap.le.refl _) ⟨u64,rfl,hw272⟩
 obtain ⟨_,hv273,u65,rfl,hw274⟩:=hdep _ (List.Mem.tail _ (List.Mem.tail _ (List.Mem.tail _ (List.Mem.tail _ (List.Mem.tail _ (List.Mem.tail _ (List.Mem.tail _ (List.Mem.tail _ (List.Mem.tail _ (List.Mem.tail _ (List.Mem.tail _ (List.Mem.tail _ (List.Mem.tail _ (List.Mem.tail _ (List.Mem.tail _ (List.Mem.tail _ (List.Mem.tail _ (List.Mem.tail _ (List.Mem.tail _ (List.Mem.tail _ (List.Mem.tail _ (List.Mem.tail _ (List.Mem.tail _ (List.Mem.tail _ (List.Mem.tail _ (List.Mem.tail _ (List.Mem.tail _ (List.Mem.tail _ (List.Mem.tail _ (List.Mem.head _)))))))))))))))))))))))))))))) (by kernel_rfl)
 obtain ⟨_,hv275,u66,rfl,hw276⟩:=hdep _ (List.Mem.tail _ (List.Mem.tail _ (List.Mem.tail _ (List.Mem.tail _ (List.Mem.tail _ (List.Mem.tail _ (List.Mem.tail _ (List.Mem.tail _ (List.Mem.tail _ (List.Mem.tail _ (List.Mem.tail _ (List.Mem.tail _ (List.Mem.tail _ (List.Mem.tail _ (List.Mem.tail _ (List.Mem.tail _ (List.Mem.tail _ (List.Mem.tail _ (List.Mem.tail _ (List.Mem.tail _ (List.Mem.tail _ (List.Mem.tail _ (List.Mem.tail _ (List.Mem.tail _ (List.Mem.tail _ (List.Mem.tail _ (List.Mem.tail _ (List.Mem.tail _ (List.Mem.tail _ (List.Mem.tail _ (List.Mem.tail _ (List.Mem.head _)))))))))))))))))))))))))))))))) (by kernel_rfl)
 refine ⟨[(53,.agg (Qc.c (⟨2,Qp.zero,[101,100,103,101],u65⟩:Qc)).toArray),(56,.agg (Qc.c (⟨3,Qp.zero,[],u66⟩:Qc)).toArray)],⟨hv273,hv275,trivial⟩,?_⟩
 have h:=ho149 D hD u65 u66 hw274 hw276
 refine GL.buildSlice (cs:=(Qc.c (⟨2,Qp.zero,[101,100,103,101],u65⟩:Qc))++(Qc.c (⟨3,Qp.zero,[],u66⟩:Qc))++[]) h trivial rfl (vs:=[(0,.agg (Qc.c (⟨2,Qp.zero,[101,100,103,101],u65⟩:Qc)).toArray),(1,.agg (Qc.c (⟨3,Qp.zero,[],u66⟩:Qc)).toArray)]) rfl ⟨56,fun _=>by kernel_rfl⟩ ?_
 intro b277 H278 h
 obtain ⟨hle279,h⟩:=h
 exact GL.un_end hle279 ⟨(Sl.of (some (b277,0)) 2 2),rfl,h⟩
 obtain ⟨_,hv280,u68,rfl,hw281⟩:=hdep _ (List.Mem.tail _ (List.Mem.tail _ (List.Mem.tail _ (List.Mem.tail _ (List.Mem.tail _ (List.Mem.tail _ (List.Mem.tail _ (List.Mem.tail _ (List.Mem.tail _ (List.Mem.tail _ (List.Mem.tail _ (List.Mem.tail _ (List.Mem.tail _ (List.Mem.tail _ (List.Mem.tail _ (List.Mem.tail _ (List.Mem.tail _ (List.Mem.tail _ (List.Mem.tail _ (List.Mem.tail _ (List.Mem.tail _ (List.Mem.tail _ (List.Mem.tail _ (List.Mem.tail _ (List.Mem.tail _ (List.Mem.tail _ (List.Mem.tail _ (List.Mem.tail _ (List.Mem.tail _ (List.Mem.tail _ (List.Mem.tail _ (List.Mem.tail _ (List.Mem.head _))))))))))))))))))))))))))))))))) (by kernel_rfl)
 refine ⟨[(57,slv u68)],⟨hv280,trivial⟩,(Zv (OV.build (vs:=[(1,sv [108,111,111,112]),(2,slv u68)]) (v:=.agg (Ql.c (⟨Qp.zero,[108,111,111,112],u68⟩:Ql)).toArray) rfl (fun _=>by kernel_rfl)) ?_)⟩
 exact GL.un_end (Heap.le.refl _) ⟨u68,rfl,hw281⟩
 obtain ⟨_,hv282,u69,rfl,hw283⟩:=hdep _ (List.Mem.tail _ (List.Mem.tail _ (List.Mem.tail _ (List.Mem.tail _ (List.Mem.tail _ (List.Mem.tail _ (List.Mem.tail _ (List.Mem.tail _ (List.Mem.tail _ (List.Mem.tail _ (List.Mem.tail _ (List.Mem.tail _ (List.Mem.tail _ (List.Mem.tail _ (List.Mem.tail _ (List.Mem.tail _ (List.Mem.tail _ (List.Mem.tail _ (List.Mem.tail _ (List.Mem.tail _ (List.Mem.tail _ (List.Mem.tail _ (List.Mem.tail _ (List.Mem.tail _ (List.Mem.tail _ (List.Mem.tail _ (List.Mem.tail _ (List.Mem.tail _ (List.Mem.tail _ (List.Mem.tail _ (List.Mem.tail _ (List.Mem.tail _ (List.Mem.tail _ (List.Mem.head _)))))))))))))))))))))))))))))))))) (by kernel_rfl)
 refine ⟨[(58,.agg (Ql.c (⟨Qp.zero,[108,111,111,112],u69⟩:Ql)).toArray)],⟨hv282,trivial⟩,?_⟩
 have h:=ho150 D hD u69 hw283
 refine GL.buildSlice (cs:=(Ql.c (⟨Qp.zero,[108,111,111,112],u69⟩:Ql))++[]) h trivial rfl (vs:=[(0,.agg (Ql.c (⟨Qp.zero,[108,111,111,112],u69⟩:Ql)).toArray)]) rfl ⟨58,fun _=>by kernel_rfl⟩ ?_
 intro b284 H285 h
 obtain ⟨hle286,h⟩:=h
 exact GL.un_end hle286 ⟨(Sl.of (some (b284,0)) 1 1),rfl,h⟩
 obtain ⟨_,hv287,u71,rfl,hw288⟩:=hdep _ (List.Mem.head _) (by kernel_rfl)
 obtain ⟨_,hv289,u72,rfl,hw290⟩:=hdep _ (List.Mem.tail _ (List.Mem.tail _ (List.Mem.tail _ (List.Mem.tail _ (List.Mem.tail _ (List.Mem.tail _ (List.Mem.tail _ (List.Mem.tail _ (List.Mem.tail _ (List.Mem.head _)))))))))) (by kernel_rfl)
 obtain ⟨_,hv291,u73,rfl,hw292⟩:=hdep _ (List.Mem.tail _ (List.Mem.tail _ (List.Mem.tail _ (List.Mem.tail _ (List.Mem.tail _ (List.Mem.tail _ (List.Mem.tail _ (List.Mem.tail _ (List.Mem.tail _ (List.Mem.tail _ (List.Mem.tail _ (List.Mem.tail _ (List.Mem.head _))))))))))))) (by kernel_rfl)
 obtain ⟨_,hv293,u74,rfl,hw294⟩:=hdep _ (List.Mem.tail _ (List.Mem.tail _ (List.Mem.tail _ (List.Mem.tail _ (List.Mem.tail _ (List.Mem.tail _ (List.Mem.tail _ (List.Mem.tail _ (List.Mem.tail _ (List.Mem.tail _ (List.Mem.tail _ (List.Mem.tail _ (List.Mem.tail _ (List.Mem.tail _ (List.Mem.tail _ (List.Mem.tail _ (List.Mem.tail _ (List.Mem.tail _ (List.Mem.tail _ (List.Mem.tail _ (List.Mem.tail _ (List.Mem.tail _ (List.Mem.tail _ (List.Mem.tail _ (List.Mem.tail _ (List.Mem.head _)))))))))))))))))))))))))) (by kernel_rfl)
 obtain ⟨_,hv295,u75,rfl,hw296⟩:=hdep _ (List.Mem.tail _ (List.Mem.tail _ (List.Mem.tail _ (List.Mem.tail _ (List.Mem.tail _ (List.Mem.tail _ (List.Mem.tail _ (List.Mem.tail _ (List.Mem.tail _ (List.Mem.tail _ (List.Mem.tail _ (List.Mem.tail _ (List.Mem.tail _ (List.Mem.tail _ (List.Mem.tail _ (List.Mem.tail _ (List.Mem.tail _ (List.Mem.tail _ (List.Mem.tail _ (List.Mem.tail _ (List.Mem.tail _ (List.Mem.tail _ (List.Mem.tail _ (List.Mem.tail _ (List.Mem.tail _ (List.Mem.tail _ (List.Mem.tail _ (List.Mem.tail _ (List.Mem.tail _ (List.Mem.tail _ (List.Mem.tail _ (List.Mem.tail _ (List.Mem.tail _ (List.Mem.tail _ (List.Mem.head _))))))))))))))))))))))))))))))))))) (by kernel_rfl)
 refine ⟨[(9,slv u71),(22,slv u72),(29,slv u73),(47,slv u74),(59,slv u75)],⟨hv287,hv289,hv291,hv293,hv295,trivial⟩,(Zv (OV.build (vs:=[(0,sv [103,114,97,112,104]),(1,slv u71),(2,slv u72),(3,slv u73),(4,slv u74),(5,slv u75)]) (v:=.agg (Qg.c (⟨[103,114,97,112,104],u71,u72,u73,u74,u75⟩:Qg)).toArray) rfl (fun _=>by kernel_rfl)) ?_)⟩
 exact GL.un_end (Heap.le.refl _) ⟨u71,u72,u73,u74,u75,rfl,hw288,hw290,hw292,hw294,hw296⟩
 refine ⟨[],trivial,?_⟩
 have h:=ho151 D hD
 refine GL.alloc (cs:=Qg.c Qg.zero) h trivial rfl rfl rfl ?_
 intro b297 H298 h
 obtain ⟨hle299,h⟩:=h
 exact GL.un_end hle299 ⟨(b297,0),rfl,h⟩
 intro D300 l' hD301 hall hfr
 obtain ⟨_,hv303,u302,rfl,hw304⟩:=hall _ (List.Mem.tail _ (List.Mem.tail _ (List.Mem.tail _ (List.Mem.tail _ (List.Mem.tail _ (List.Mem.tail _ (List.Mem.tail _ (List.Mem.tail _ (List.Mem.tail _ (List.Mem.tail _ (List.Mem.tail _ (List.Mem.tail _ (List.Mem.tail _ (List.Mem.tail _ (List.Mem.tail _ (List.Mem.tail _ (List.Mem.tail _ (List.Mem.tail _ (List.Mem.tail _ (List.Mem.tail _ (List.Mem.tail _ (List.Mem.tail _ (List.Mem.tail _ (List.Mem.tail _ (List.Mem.tail _ (List.Mem.tail _ (List.Mem.tail _ (List.Mem.tail _ (List.Mem.tail _ (List.Mem.tail _ (List.Mem.tail _ (List.Mem.tail _ (List.Mem.tail _ (List.Mem.tail _ (List.Mem.tail _ (List.Mem.tail _ (List.Mem.head _)))))))))))))))))))))))))))))))))))))
 obtain ⟨_,hv310,u305,u306,u307,u308,u309,rfl,hw311,hw312,hw313,hw314,hw315⟩:=hall _ (List.Mem.tail _ (List.Mem.tail _ (List.Mem.tail _ (List.Mem.tail _ (List.Mem.tail _ (List.Mem.tail _ (List.Mem.tail _ (List.Mem.tail _ (List.Mem.tail _ (List.Mem.tail _ (List.Mem.tail _ (List.Mem.tail _ (List.Mem.tail _ (List.Mem.tail _ (List.Mem.tail _ (List.Mem.tail _ (List.Mem.tail _ (List.Mem.tail _ (List.Mem.tail _ (List.Mem.tail _ (List.Mem.tail _ (List.Mem.tail _ (List.Mem.tail _ (List.Mem.tail _ (List.Mem.tail _ (List.Mem.tail _ (List.Mem.tail _ (List.Mem.tail _ (List.Mem.tail _ (List.Mem.tail _ (List.Mem.tail _ (List.Mem.tail _ (List.Mem.tail _ (List.Mem.tail _ (List.Mem.tail _ (List.Mem.head _))))))))))))))))))))))))))))))))))))
 replace h:=h D300 hD301 u302 u305 u306 u307 u308 u309 hw304 hw311 hw312 hw313 hw314 hw315
 refine GA.sub [(1,.func (.func 23) (List.toArray []) (List.toArray [])),(3,pv (some u302)),(60,.agg (Qg.c (⟨[103,114,97,112,104],u305,u306,u307,u308,u309⟩:Qg)).toArray)] ⟨(hfr 1 rfl).trans rfl,hv303,hv310,trivial⟩ (GA.eff 54 rfl (by kernel_rfl) (GL.storeT (p:=u302) (vs:=Qg.c (⟨[103,114,97,112,104],u305,u306,u307,u308,u309⟩:Qg)) h trivial rfl rfl rfl rfl ?_))
 intro H317 h
 obtain ⟨hle316,h⟩:=h
 refine GA.back hle316 (GA.done (by kernel_rfl) ?_)
 exact Yj I3 u302 h
 intro x5 H6 h
 replace h:=hR7 x5 H6 h
 refine GL.nil (Zo ?_)
 obtain ⟨x318,v319,h⟩:=h
 refine Zv (OV.loadT rfl rfl rfl v319) (Zc h Qmp ?_)
 rintro _ H322 ⟨r320,r321,rfl,h⟩
 refine Zm (Yv (sv r320) rfl rfl (Yv (.int .i64 r321) rfl rfl (Za (Za (GL.nil (Zo (Zm (GL.callV (fs:=[]) (vs:=[sv [66]]) (cs:=[]) h trivial rfl QaA rfl rfl ?_))))))))
 rintro _ H324 ⟨r323,rfl,h⟩
 refine Zm (GL.callV (fs:=[]) (vs:=[sv [65]]) (cs:=[]) h trivial rfl QaA rfl rfl ?_)
 rintro _ H326 ⟨r325,rfl,h⟩
 refine Zm (GL.callV (fs:=[]) (vs:=[sv [66]]) (cs:=[]) h trivial rfl QaA rfl rfl ?_)
 rintro _ H328 ⟨r327,rfl,h⟩
 refine GL.buildSlice (cs:=(Qa.c r325)++(Qa.c r327)++[]) h trivial rfl (vs:=[(0,.agg (Qa.c r325).toArray),(1,.agg (Qa.c r327).toArray)]) rfl ⟨47,fun _=>by kernel_rfl⟩ ?_
 intro b329 H330 h
 refine Zv (OV.build (vs:=[(0,.int .u8 4),(4,slv (Sl.of (some (b329,0)) 2 2))]) (v:=.agg (Qa.c (⟨4,Qp.zero,[],Qb.zero,(Sl.of (some (b329,0)) 2 2)⟩:Qa)).toArray) rfl (fun _=>by kernel_rfl)) (GL.buildSlice (cs:=(Qa.c r323)++(Qa.c (⟨4,Qp.zero,[],Qb.zero,(Sl.of (some (b329,0)) 2 2)⟩:Qa))++[]) h trivial rfl (vs:=[(0,.agg (Qa.c r323).toArray),(1,.agg (Qa.c (⟨4,Qp.zero,[],Qb.zero,(Sl.of (some (b329,0)) 2 2)⟩:Qa)).toArray)]) rfl ⟨47,fun _=>by kernel_rfl⟩ ?_)
 intro b331 H332 h
 refine Zv (OV.build (vs:=[(0,.int .u8 6),(2,sv [43]),(4,slv (Sl.of (some (b331,0)) 2 2))]) (v:=.agg (Qa.c (⟨6,Qp.zero,[43],Qb.zero,(Sl.of (some (b331,0)) 2 2)⟩:Qa)).toArray) rfl (fun _=>by kernel_rfl)) (Zc h Qrm ?_)
 rintro _ H334 ⟨r333,rfl,h⟩
 refine Za (GL.nil (Zo (Zm (Zi (.bool ((r321:Int) == 0)) (Zm (GL.cut0 3 [(82,.bool (((r321:Int) == 0) && (r320 == ([109,111,100,117,108,101,32,103,114,97,112,104,10,105,109,112,111,114,116,32,98,97,115,101,10,112,117,98,32,116,121,112,101,32,108,105,115,116,40,39,97,41,32,61,32,110,105,108,32,124,32,99,111,110,115,40,104,101,97,100,58,32,39,97,44,32,108,105,115,116,40,39,97,41,41,10,112,117,98,32,105,110,112,117,116,32,101,100,103,101,40,102,114,111,109,58,32,105,110,116,44,32,116,111,58,32,105,110,116,41,10,112,97,116,104,40,88,44,32,99,111,117,110,116,40,90,41,41,32,58,45,32,98,97,115,101,46,112,97,116,104,40,88,44,32,95,41,44,32,90,32,61,32,88,46,10,110,101,118,101,114,32,108,111,111,112,32,58,45,32,110,111,116,32,101,100,103,101,40,88,44,32,88,41,44,32,40,110,105,108,41,46,10]:Str)))),(3,pv (some x5)),(6,slv r333)] ?_ ?_))))))
 rcases Zb ((r321:Int) == 0) with hc335 | hc335
 refine Zu hc335 Ym (Zu hc335 (OV.sbin (a:=r320) (b:=([109,111,100,117,108,101,32,103,114,97,112,104,10,105,109,112,111,114,116,32,98,97,115,101,10,112,117,98,32,116,121,112,101,32,108,105,115,116,40,39,97,41,32,61,32,110,105,108,32,124,32,99,111,110,115,40,104,101,97,100,58,32,39,97,44,32,108,105,115,116,40,39,97,41,41,10,112,117,98,32,105,110,112,117,116,32,101,100,103,101,40,102,114,111,109,58,32,105,110,116,44,32,116,111,58,32,105,110,116,41,10,112,97,116,104,40,88,44,32,99,111,117,110,116,40,90,41,41,32,58,45,32,98,97,115,101,46,112,97,116,104,40,88,44,32,95,41,44,32,90,32,61,32,88,46,10,110,101,118,101,114,32,108,111,111,112,32,58,45,32,110,111,116,32,101,100,103,101,40,88,44,32,88,41,44,32,40,110,105,108,41,46,10]:Str)) (v:=.bool (r320 == ([109,111,100,117,108,101,32,103,114,97,112,104,10,105,109,112,111,114,116,32,98,97,115,101,10,112,117,98,32,116,121,112,101,32,108,105,115,116,40,39,97,41,32,61,32,110,105,108,32,124,32,99,111,110,115,40,104,101,97,100,58,32,39,97,44,32,108,105,115,116,40,39,97,41,41,10,112,117,98,32,105,110,112,117,116,32,101,100,103,101,40,102,114,111,109,58,32,105,110,116,44,32,116,111,58,32,105,110,116,41,10,112,97,116,104,40,88,44,32,99,111,117,110,116,40,90,41,41,32,58,45,32,98,97,115,101,46,112,97,116,104,40,88,44,32,95,41,44,32,90,32,61,32,88,46,10,110,101,118,101,114,32,108,111,111,112,32,58,45,32,110,111,116,32,101,100,103,101,40,88,44,32,88,41,44,32,40,110,105,108,41,46,10]:Str))) rfl rfl rfl) (Zt hc335 ?_))
 exact GL.jump0 (fun _ _ h=>h) () rfl ⟨(by rw [hc335]; rfl),rfl,rfl,trivial⟩
 refine Zk hc335 (Zk hc335 (Zn hc335 ?_))
 exact GL.jump0 (fun _ _ h=>h) () rfl ⟨(by rw [hc335]; rfl),rfl,rfl,trivial⟩
 refine Zm ?_
 obtain ⟨J337,h,hR338⟩:=h
 refine GL.cut (α:=Bool) 4 J337 (fun b336=>[(87,.bool b336),(6,slv r333)]) ?_ ?_
 rcases h.em with ⟨hc339,h⟩ | ⟨hc339,h⟩
 obtain ⟨x340,v341,h⟩:=h
 refine Zu hc339 (OV.loadT rfl rfl rfl v341) ?_
 obtain ⟨x342,v343,h⟩:=h
 refine Zu hc339 (OV.loadT rfl rfl rfl v343) (GL.call h (Yt hc339) rfl Qrl (vs:=[.agg (Qg.c x340).toArray,.agg (Qg.c x342).toArray]) rfl ?_)
 rintro _ H345 ⟨r344,rfl,h⟩
 refine Zt hc339 ?_
 exact Yj I3 r344 h
 refine Zk hc339 (Zk hc339 (Zk hc339 (Zn hc339 ?_)))
 exact Yj I3 false h
 intro b336 H346 h
 replace h:=hR338 b336 H346 h
 refine Zm (GL.cut0 4 [(92,.bool (b336 && (((Sl.len r333:Int):Int) == 2))),(6,slv r333)] ?_ ?_)
 rcases Bool.eq_false_or_eq_true b336 with hc347 | hc347
 refine Zu hc347 Ym (Zu hc347 (OV.lenSl rfl rfl) (Zu hc347 (OV.ibin (v:=.bool (((Sl.len r333:Int):Int) == 2)) rfl rfl rfl) (Zt hc347 ?_)))
 exact GL.jump0 (fun _ _ h=>h) () rfl ⟨(by rw [hc347]; rfl),rfl,trivial⟩
 refine Zk hc347 (Zk hc347 (Zk hc347 (Zn hc347 ?_)))
 exact GL.jump0 (fun _ _ h=>h) () rfl ⟨(by rw [hc347]; rfl),rfl,trivial⟩
 refine Zm ?_
 obtain ⟨J349,h,hR350⟩:=h
 refine GL.cut (α:=Bool) 5 J349 (fun b348=>[(98,.bool b348),(6,slv r333)]) ?_ ?_
 rcases h.em with ⟨hc351,h⟩ | ⟨hc351,h⟩
 refine Zu hc351 Ym ?_
 obtain ⟨p352,ha353,hb354,hc355,hd356,h⟩:=h
 refine Zu hc351 (OV.indexAddr rfl rfl rfl rfl ha353 hb354 hc355 hd356) ?_
 obtain ⟨x357,v358,h⟩:=h
 refine Zu hc351 (Yo v358) (Zu hc351 (OV.sbin (a:=x357) (b:=([66]:Str)) (v:=.bool (x357 == ([66]:Str))) rfl rfl rfl) (Zt hc351 ?_))
 exact Yj I3 (x357 == ([66]:Str)) h
 refine Zk hc351 (Zk hc351 (Zk hc351 (Zk hc351 (Zn hc351 ?_))))
 exact Yj I3 false h
 intro b348 H359 h
 replace h:=hR350 b348 H359 h
 refine Zm ?_
 obtain ⟨J361,h,hR362⟩:=h
 refine GL.cut (α:=Bool) 5 J361 (fun b360=>[(104,.bool b360)]) ?_ ?_
 rcases h.em with ⟨hc363,h⟩ | ⟨hc363,h⟩
 refine Zu hc363 Ym ?_
 obtain ⟨p364,ha365,hb366,hc367,hd368,h⟩:=h
 refine Zu hc363 (OV.indexAddr rfl rfl rfl rfl ha365 hb366 hc367 hd368) ?_
 obtain ⟨x369,v370,h⟩:=h
 refine Zu hc363 (Yo v370) (Zu hc363 (OV.sbin (a:=x369) (b:=([65]:Str)) (v:=.bool (x369 == ([65]:Str))) rfl rfl rfl) (Zt hc363 ?_))
 exact Yj I3 (x369 == ([65]:Str)) h
 refine Zk hc363 (Zk hc363 (Zk hc363 (Zk hc363 (Zn hc363 ?_))))
 exact Yj I3 false h
 intro b360 H371 h
 replace h:=hR362 b360 H371 h
 refine Za (GL.nil ?_)
 exact Y1 I3 ⟨b360,rfl,h⟩
def QmL (C:Ctx) (p_m:Qg) (K:Str→Int→Heap→Prop) (H:Heap):Prop:=
 nw (Qg.c p_m) (fun b1 H2=>
 ldT H2 Qg.c (b1,0) fun x3=>
 QcY C x3 (fun r5 H6=>
 ift ((r5:Int) != 0)
 (K [] r5 H6)
 (nwB 87 5 (fun b8 H9=>
 nw ([pv none]) (fun b10 H11=>
 st (b10,0) (pv (some (b8,0))) (fun H12=>
 ldP H12 (b10,0) fun x13=>
 ldS H12 ((b1,0).1,(b1,0).2+0) fun x15=>
 nw ([sv [109,111,100,117,108,101,32],sv x15,sv [10]]) (fun b17 H18=>
 QH C x13 (Sl.of (some (b17,0)) 3 3) (fun H19=>
 ldP H19 (b10,0) fun x20=>
 ldL H19 ((b1,0).1,(b1,0).2+1) fun x22=>
 QdG C x20 x22 [] (.func (.func 27) (List.toArray []) (List.toArray [pv (some (b10,0))]):Value) (fun H24=>
 ldP H24 (b10,0) fun x25=>
 ldL H24 ((b1,0).1,(b1,0).2+2) fun x27=>
 ldP H24 (b10,0) fun x29=>
 Qdf C x25 x27 [] (.func (.func 29) (List.toArray [pv x29]) (List.toArray []):Value) (fun H31=>
 ldP H31 (b10,0) fun x32=>
 ldL H31 ((b1,0).1,(b1,0).2+3) fun x34=>
 ldP H31 (b10,0) fun x36=>
 QdH C x32 x34 [] (.func (.func 31) (List.toArray [pv x36]) (List.toArray []):Value) (fun H38=>
 ldP H38 (b10,0) fun x39=>
 ldL H38 ((b1,0).1,(b1,0).2+4) fun x41=>
 ldP H38 (b10,0) fun x43=>
 QeC C x39 x41 [] (.func (.func 33) (List.toArray [pv x43]) (List.toArray []):Value) (fun H45=>
 ldP H45 (b10,0) fun x46=>
 ldL H45 ((b1,0).1,(b1,0).2+5) fun x48=>
 Qd5 C x46 x48 [] (.func (.func 35) (List.toArray []) (List.toArray [pv (some (b10,0))]):Value) (fun H50=>
 ldP H50 (b10,0) fun x51=>
 nck x51 fun p53=>
 QU C (some (p53.1,p53.2+0)) (fun r55 H56=>
 K r55 0 H56) H50) H45) H38) H31) H24) H19) H18) H12) H11) H9) H6)) H2) H
theorem Qqh (C p_m K H) (h:QmL C p_m K H):QcZ C p_m K H:=by
 refine Ye Tryz.func10 rfl Tryz.ntmps10 [(0,.agg (Qg.c p_m).toArray)] (Zo (GL.box (v:=.agg (Qg.c p_m).toArray) (cs:=Qg.c p_m) h trivial rfl rfl rfl ?_))
 intro b1 H2 h
 refine Za (Za (GL.nil (GC.seq (Zo ?_))))
 obtain ⟨x3,v4,h⟩:=h
 refine Zv (OV.loadT rfl rfl rfl v4) (Zc h Qmo ?_)
 rintro _ H6 ⟨r5,rfl,h⟩
 refine Za (GL.nil (Zo (Zm (Zi (.bool ((r5:Int) != 0)) (GL.nil (Yd h (fun u7 h=>?_) fun u7 h=>?_))))))
 refine Zo (Zm (Za (Za (GL.nil ?_))))
 exact Y2 I3 ⟨[],r5,rfl,h⟩
 refine GC.skip (Zo (Zv (OV.build (vs:=[]) (v:=.agg (Qcg.c (⟨QaK.zero⟩:Qcg)).toArray) rfl (fun _=>by kernel_rfl)) (GL.boxB (T:=87) (e:=5) (v:=.agg (Qcg.c (⟨QaK.zero⟩:Qcg)).toArray) h trivial rfl rfl rfl ?_)))
 intro b8 H9 h
 refine GL.alloc (cs:=[pv none]) h trivial rfl rfl rfl ?_
 intro b10 H11 h
 refine GL.store (p:=(b10,0)) (v:=pv (some (b8,0))) h trivial rfl rfl rfl rfl ?_
 intro H12 h
 refine GL.nil (Zo (Yl h fun x13 h=>?_))
 refine Zf (Yl h fun x15 h=>?_)
 refine GL.buildSlice (cs:=[sv [109,111,100,117,108,101,32],sv x15,sv [10]]) h trivial rfl (vs:=[(0,sv [109,111,100,117,108,101,32]),(1,sv x15),(2,sv [10])]) rfl ⟨9,fun _=>by kernel_rfl⟩ ?_
 intro b17 H18 h
 refine Zc h QV ?_
 rintro _ H19 ⟨rfl,h⟩
 refine GL.nil (Zo (Yl h fun x20 h=>?_))
 refine Zf (Yl h fun x22 h=>?_)
 refine Zv (OV.makeFunc (vs:=[]) (us:=[pv (some (b10,0))]) rfl rfl) (Zc h Qi8 ?_)
 rintro _ H24 ⟨rfl,h⟩
 refine GL.nil (Zo (Yl h fun x25 h=>?_))
 refine Zf (Yl h fun x27 h=>?_)
 refine Yl h fun x29 h=>?_
 refine Zv (OV.makeFunc (vs:=[pv x29]) (us:=[]) rfl rfl) (Zc h Qip ?_)
 rintro _ H31 ⟨rfl,h⟩
 refine GL.nil (Zo (Yl h fun x32 h=>?_))
 refine Zf (Yl h fun x34 h=>?_)
 refine Yl h fun x36 h=>?_
 refine Zv (OV.makeFunc (vs:=[pv x36]) (us:=[]) rfl rfl) (Zc h Qi9 ?_)
 rintro _ H38 ⟨rfl,h⟩
 refine GL.nil (Zo (Yl h fun x39 h=>?_))
 refine Zf (Yl h fun x41 h=>?_)
 refine Yl h fun x43 h=>?_
 refine Zv (OV.makeFunc (vs:=[pv x43]) (us:=[]) rfl rfl) (Zc h Qkc ?_)
 rintro _ H45 ⟨rfl,h⟩
 refine GL.nil (Zo (Yl h fun x46 h=>?_))
 refine Zf (Yl h fun x48 h=>?_)
 refine Zv (OV.makeFunc (vs:=[]) (us:=[pv (some (b10,0))]) rfl rfl) (Zc h QjG ?_)
 rintro _ H50 ⟨rfl,h⟩
 refine GL.nil (Zo (Yl h fun x51 h=>?_))
 obtain ⟨p53,hp54,h⟩:=h
 refine Zv (OV.nilCheck (q:=x51) rfl hp54) (Zf (Zc h QeO ?_))
 rintro _ H56 ⟨r55,rfl,h⟩
 refine Za (Za (GL.nil ?_))
 exact Y2 I3 ⟨r55,0,rfl,h⟩
def Qlk (C:Ctx) (p_m:Qg) (K:Str→Int→Heap→Prop) (H:Heap):Prop:=
 nw (Qg.c p_m) (fun b1 H2=>
 ldT H2 Qg.c (b1,0) fun x3=>
 Qcm C x3 (fun r5 H6=>
 ift ((r5:Int) != 0)
 (K [] r5 H6)
 (ldS H6 ((b1,0).1,(b1,0).2+0) fun x8=>
 catOk ([109,111,100,117,108,101,32]:Str) x8∧
 catOk (([109,111,100,117,108,101,32]:Str)++x8) ([10]:Str)∧
 lp (α:=Str×Int) (((([109,111,100,117,108,101,32]:Str)++x8)++([10]:Str)),0) H6 (fun x12 J13 H14=>
 ldL H14 ((b1,0).1,(b1,0).2+1) fun x15=>
 ift (decide ((x12.2:Int) < (Sl.len x15:Int)))
 (catOk x12.1 ([105,109,112,111,114,116,32]:Str)∧
 ldL H14 ((b1,0).1,(b1,0).2+1) fun x19=>
 ixa x19 x12.2 fun p21=>
 ldS H14 ((p21.1,p21.2+(x12.2:Int).toNat*3).1,(p21.1,p21.2+(x12.2:Int).toNat*3).2+2) fun x26=>
 catOk (x12.1++([105,109,112,111,114,116,32]:Str)) x26∧
 catOk ((x12.1++([105,109,112,111,114,116,32]:Str))++x26) ([10]:Str)∧
 J13 ((((x12.1++([105,109,112,111,114,116,32]:Str))++x26)++([10]:Str)),(w .i64 (x12.2+1))) H14)
 (lp (α:=Str×Int) (x12.1,0) H14 (fun x30 J31 H32=>
 ldL H32 ((b1,0).1,(b1,0).2+2) fun x33=>
 ift (decide ((x30.2:Int) < (Sl.len x33:Int)))
 (ldL H32 ((b1,0).1,(b1,0).2+2) fun x36=>
 ixa x36 x30.2 fun p38=>
 ldT H32 Qf.c (p38.1,p38.2+(x30.2:Int).toNat*6) fun x43=>
 QbM C x43 (fun r45 H46=>
 catOk x30.1 r45∧
 J31 ((x30.1++r45),(w .i64 (x30.2+1))) H46) H32)
 (lp (α:=Str×Int) (x30.1,0) H32 (fun x48 J49 H50=>
 ldL H50 ((b1,0).1,(b1,0).2+3) fun x51=>
 ift (decide ((x48.2:Int) < (Sl.len x51:Int)))
 (ldL H50 ((b1,0).1,(b1,0).2+3) fun x54=>
 ixa x54 x48.2 fun p56=>
 ldT H50 Qi.c (p56.1,p56.2+(x48.2:Int).toNat*6) fun x61=>
 nw (Qi.c Qi.zero) (fun b63 H64=>
 stT (b63,0) (Qi.c x61) (fun H65=>
 jn (α:=Str) (fun x67 H68=>
 dr H68 fun Hs73=>
 ldB Hs73 ((b63,0).1,(b63,0).2+2) fun x75=>
 ldS Hs73 ((b63,0).1,(b63,0).2+4) fun x77=>
 ldL Hs73 ((b63,0).1,(b63,0).2+5) fun x79=>
 QiU C x75 (fun r82 H83=>
 Heap.le Hs73 H83∧
 catOk x48.1 r82∧
 catOk (x48.1++r82) x67∧
 catOk ((x48.1++r82)++x67) x77∧
 catOk (((x48.1++r82)++x67)++x77) ([40]:Str)∧
 Qau C x79 (fun r89 H90=>
 Heap.le Hs73 H90∧
 catOk ((((x48.1++r82)++x67)++x77)++([40]:Str)) r89∧
 catOk (((((x48.1++r82)++x67)++x77)++([40]:Str))++r89) ([41,10]:Str)∧
 J49 (((((((x48.1++r82)++x67)++x77)++([40]:Str))++r89)++([41,10]:Str)),(w .i64 (x48.2+1))) H90) H83) H68)
 (fun J66=>ldB H65 ((b63,0).1,(b63,0).2+3) fun x70=>
 ift x70
 (J66 [105,110,112,117,116,32] H65)
 (J66 [114,101,108,32] H65))) H64) H50)
 (lp (α:=Str×Int) (x48.1,0) H50 (fun x93 J94 H95=>
 ldL H95 ((b1,0).1,(b1,0).2+4) fun x96=>
 ift (decide ((x93.2:Int) < (Sl.len x96:Int)))
 (ldL H95 ((b1,0).1,(b1,0).2+4) fun x99=>
 ixa x99 x93.2 fun p101=>
 ldT H95 Qk.c (p101.1,p101.2+(x93.2:Int).toNat*6) fun x106=>
 QbL C x106 (fun r108 H109=>
 catOk x93.1 r108∧
 J94 ((x93.1++r108),(w .i64 (x93.2+1))) H109) H95)
 (lp (α:=Str×Int) (x93.1,0) H95 (fun x111 J112 H113=>
 ldL H113 ((b1,0).1,(b1,0).2+5) fun x114=>
 ift (decide ((x111.2:Int) < (Sl.len x114:Int)))
 (dr H113 fun Hs117=>
 catOk x111.1 ([110,101,118,101,114,32]:Str)∧
 ldL Hs117 ((b1,0).1,(b1,0).2+5) fun x120=>
 ixa x120 x111.2 fun p122=>
 ldS Hs117 ((p122.1,p122.2+(x111.2:Int).toNat*4).1,(p122.1,p122.2+(x111.2:Int).toNat*4).2+2) fun x127=>
 catOk (x111.1++([110,101,118,101,114,32]:Str)) x127∧
 catOk ((x111.1++([110,101,118,101,114,32]:Str))++x127) ([32,58,45,32]:Str)∧
 ldL Hs117 ((b1,0).1,(b1,0).2+5) fun x131=>
 ixa x131 x111.2 fun p133=>
 ldL Hs117 ((p133.1,p133.2+(x111.2:Int).toNat*4).1,(p133.1,p133.2+(x111.2:Int).toNat*4).2+3) fun x138=>
 Qa9 C x138 (fun r141 H142=>
 Heap.le Hs117 H142∧
 catOk (((x111.1++([110,101,118,101,114,32]:Str))++x127)++([32,58,45,32]:Str)) r141∧
 catOk ((((x111.1++([110,101,118,101,114,32]:Str))++x127)++([32,58,45,32]:Str))++r141) ([46,10]:Str)∧
 J112 ((((((x111.1++([110,101,118,101,114,32]:Str))++x127)++([32,58,45,32]:Str))++r141)++([46,10]:Str)),(w .i64 (x111.2+1))) H142) H113)
 (K x111.1 0 H113)))))))))))) H2) H
theorem Qo4 (C p_m K H) (h:Qlk C p_m K H):Qc8 C p_m K H:=by
 refine Ye Tryz.func11 rfl Tryz.ntmps11 [(0,.agg (Qg.c p_m).toArray)] (Zo (GL.box (v:=.agg (Qg.c p_m).toArray) (cs:=Qg.c p_m) h trivial rfl rfl rfl ?_))
 intro b1 H2 h
 refine Za (Za (GL.nil (Zo ?_)))
 obtain ⟨x3,v4,h⟩:=h
 refine Zv (OV.loadT rfl rfl rfl v4) (Zc h Qk2 ?_)
 rintro _ H6 ⟨r5,rfl,h⟩
 refine Za (GL.nil (GC.seq (Zo (Zm (Zi (.bool ((r5:Int) != 0)) (GL.nil (Yd h (fun u7 h=>?_) fun u7 h=>?_)))))))
 refine Zo (Zm (Za (Za (GL.nil ?_))))
 exact Y2 I3 ⟨[],r5,rfl,h⟩
 refine GC.skip (Zo (Zf (Yl h fun x8 h=>?_)))
 obtain ⟨hl10,h⟩:=h
 refine Zv (OV.cat (a:=([109,111,100,117,108,101,32]:Str)) (b:=x8) rfl rfl hl10) ?_
 obtain ⟨hl11,h⟩:=h
 refine Zv (OV.cat (a:=(([109,111,100,117,108,101,32]:Str)++x8)) (b:=([10]:Str)) rfl rfl hl11) (Za (GL.nil (GC.seq (Zo (Za (GL.nil (GC.block (Yp h (fun x12=>[(5,sv x12.1),(6,.int .i64 x12.2),(1,pv (some (b1,0)))]) ?_))))))))
 intro x12 H14 J13 h
 refine GC.seq (Zo (Zm (Zf (Yl h fun x15 h=>?_))))
 refine Zq (Zi (.bool (decide ((x12.2:Int) < (Sl.len x15:Int)))) (GL.nil (Yd h (fun u17 h=>?_) fun u17 h=>?_)))
 refine GC.skip (GC.seq (GC.block (GC.region (Zm ?_))))
 obtain ⟨hl18,h⟩:=h
 refine Zv (OV.cat (a:=x12.1) (b:=([105,109,112,111,114,116,32]:Str)) rfl rfl hl18) (Zf (Yl h fun x19 h=>?_))
 refine Zm (Yx h fun p21 h=>?_)
 refine Zf (Yl h fun x26 h=>?_)
 obtain ⟨hl28,h⟩:=h
 refine Zv (OV.cat (a:=(x12.1++([105,109,112,111,114,116,32]:Str))) (b:=x26) rfl rfl hl28) ?_
 obtain ⟨hl29,h⟩:=h
 refine Zv (OV.cat (a:=((x12.1++([105,109,112,111,114,116,32]:Str))++x26)) (b:=([10]:Str)) rfl rfl hl29) (Za (GL.nil_to (fun _ _ h=>h) (GC.region (Zm (Zi (.int .i64 (w .i64 (x12.2+1))) (Za ?_))))))
 exact Yj I3 ((((x12.1++([105,109,112,111,114,116,32]:Str))++x26)++([10]:Str)),(w .i64 (x12.2+1))) h
 refine GC.exit_to (fun _ _ h=>h) (GC.seq (Zo (Za (GL.nil (GC.block (Yp h (fun x30=>[(5,sv x30.1),(7,.int .i64 x30.2),(1,pv (some (b1,0)))]) ?_))))))
 intro x30 H32 J31 h
 refine GC.seq (Zo (Zm (Zf (Yl h fun x33 h=>?_))))
 refine Zq (Zi (.bool (decide ((x30.2:Int) < (Sl.len x33:Int)))) (GL.nil (Yd h (fun u35 h=>?_) fun u35 h=>?_)))
 refine GC.skip (GC.seq (GC.block (GC.region (Zm (Zf (Yl h fun x36 h=>?_))))))
 refine Zm (Yx h fun p38 h=>?_)
 obtain ⟨x43,v44,h⟩:=h
 refine Zv (OV.loadT rfl rfl rfl v44) (Zc h Qnc ?_)
 rintro _ H46 ⟨r45,rfl,h⟩
 obtain ⟨hl47,h⟩:=h
 refine Zv (OV.cat (a:=x30.1) (b:=r45) rfl rfl hl47) (Za (GL.nil_to (fun _ _ h=>h) (GC.region (Zm (Zi (.int .i64 (w .i64 (x30.2+1))) (Za ?_))))))
 exact Yj I3 ((x30.1++r45),(w .i64 (x30.2+1))) h
 refine GC.exit_to (fun _ _ h=>h) (GC.seq (Zo (Za (GL.nil (GC.block (Yp h (fun x48=>[(5,sv x48.1),(8,.int .i64 x48.2),(1,pv (some (b1,0)))]) ?_))))))
 intro x48 H50 J49 h
 refine GC.seq (Zo (Zm (Zf (Yl h fun x51 h=>?_))))
 refine Zq (Zi (.bool (decide ((x48.2:Int) < (Sl.len x51:Int)))) (GL.nil (Yd h (fun u53 h=>?_) fun u53 h=>?_)))
 refine GC.skip (GC.seq (GC.block (Zo (Zf (Yl h fun x54 h=>?_)))))
 refine Zm (Yx h fun p56 h=>?_)
 obtain ⟨x61,v62,h⟩:=h
 refine Zv (OV.loadT rfl rfl rfl v62) (GL.alloc (cs:=Qi.c Qi.zero) h trivial rfl rfl rfl ?_)
 intro b63 H64 h
 refine GL.storeT (p:=(b63,0)) (vs:=Qi.c x61) h trivial rfl rfl rfl rfl ?_
 intro H65 h
 refine GL.nil (Zo (Za (GL.nil ?_)))
 obtain ⟨J66,h,hR69⟩:=h
 refine GC.join (α:=Str) J66 (fun x67=>[(10,sv x67),(1,pv (some (b1,0))),(5,sv x48.1),(8,.int .i64 x48.2),(9,pv (some (b63,0)))]) ?_ ?_
 refine Zo (Zf (Yl h fun x70 h=>?_))
 refine GL.nil (Yd h (fun u72 h=>?_) fun u72 h=>?_)
 refine GC.region (Za ?_)
 exact Yj I3 [105,110,112,117,116,32] h
 exact Yk I3 [114,101,108,32] h
 intro x67 H68 h
 replace h:=hR69 x67 H68 h
 obtain ⟨Hs73,hle74,h⟩:=h
 refine GC.any (Hs:=Hs73) (by kernel_rfl) hle74 (Zp 0 rfl Ym (Zp 1 rfl Yf ?_))
 obtain ⟨x75,v76,h⟩:=h
 refine Zp 2 rfl (Yo v76) (Zp 5 rfl Ym (Zp 7 rfl Yf ?_))
 obtain ⟨x77,v78,h⟩:=h
 refine Zp 8 rfl (Yo v78) (Zp 11 rfl Yf ?_)
 obtain ⟨x79,v80,h⟩:=h
 refine Zp 12 rfl (Yo v80) (GA.eff 3 rfl (by kernel_rfl) (Zc h Qnm ?_))
 rintro _ H83 ⟨r82,rfl,h⟩
 obtain ⟨hle81,h⟩:=h
 refine GA.back hle81 ?_
 obtain ⟨hl84,h⟩:=h
 refine Zp 4 rfl (OV.cat (a:=x48.1) (b:=r82) rfl rfl hl84) ?_
 obtain ⟨hl85,h⟩:=h
 refine Zp 6 rfl (OV.cat (a:=(x48.1++r82)) (b:=x67) rfl rfl hl85) ?_
 obtain ⟨hl86,h⟩:=h
 refine Zp 9 rfl (OV.cat (a:=((x48.1++r82)++x67)) (b:=x77) rfl rfl hl86) ?_
 obtain ⟨hl87,h⟩:=h
 refine Zp 10 rfl (OV.cat (a:=(((x48.1++r82)++x67)++x77)) (b:=([40]:Str)) rfl rfl hl87) (GA.eff 13 rfl (by kernel_rfl) (Zc h QgQ ?_))
 rintro _ H90 ⟨r89,rfl,h⟩
 obtain ⟨hle88,h⟩:=h
 refine GA.back hle88 ?_
 obtain ⟨hl91,h⟩:=h
 refine Zp 14 rfl (OV.cat (a:=((((x48.1++r82)++x67)++x77)++([40]:Str))) (b:=r89) rfl rfl hl91) ?_
 obtain ⟨hl92,h⟩:=h
 refine Zp 15 rfl (OV.cat (a:=(((((x48.1++r82)++x67)++x77)++([40]:Str))++r89)) (b:=([41,10]:Str)) rfl rfl hl92) (Zp 16 rfl Ya (GA.done (by kernel_rfl) (GL.nil_to (fun _ _ h=>h) (GC.region (Zm (Zi (.int .i64 (w .i64 (x48.2+1))) (Za ?_)))))))
 exact Yj I3 (((((((x48.1++r82)++x67)++x77)++([40]:Str))++r89)++([41,10]:Str)),(w .i64 (x48.2+1))) h
 refine GC.exit_to (fun _ _ h=>h) (GC.seq (Zo (Za (GL.nil (GC.block (Yp h (fun x93=>[(5,sv x93.1),(11,.int .i64 x93.2),(1,pv (some (b1,0)))]) ?_))))))
 intro x93 H95 J94 h
 refine GC.seq (Zo (Zm (Zf (Yl h fun x96 h=>?_))))
 refine Zq (Zi (.bool (decide ((x93.2:Int) < (Sl.len x96:Int)))) (GL.nil (Yd h (fun u98 h=>?_) fun u98 h=>?_)))
 refine GC.skip (GC.seq (GC.block (GC.region (Zm (Zf (Yl h fun x99 h=>?_))))))
 refine Zm (Yx h fun p101 h=>?_)
 obtain ⟨x106,v107,h⟩:=h
 refine Zv (OV.loadT rfl rfl rfl v107) (Zc h Qnb ?_)
 rintro _ H109 ⟨r108,rfl,h⟩
 obtain ⟨hl110,h⟩:=h
 refine Zv (OV.cat (a:=x93.1) (b:=r108) rfl rfl hl110) (Za (GL.nil_to (fun _ _ h=>h) (GC.region (Zm (Zi (.int .i64 (w .i64 (x93.2+1))) (Za ?_))))))
 exact Yj I3 ((x93.1++r108),(w .i64 (x93.2+1))) h
 refine GC.exit_to (fun _ _ h=>h) (GC.seq (Zo (Za (GL.nil (GC.block (Yp h (fun x111=>[(5,sv x111.1),(12,.int .i64 x111.2),(1,pv (some (b1,0)))]) ?_))))))
 intro x111 H113 J112 h
 refine GC.seq (Zo (Zm (Zf (Yl h fun x114 h=>?_))))
 refine Zq (Zi (.bool (decide ((x111.2:Int) < (Sl.len x114:Int)))) (GL.nil (Yd h (fun u116 h=>?_) fun u116 h=>?_)))
 refine GC.skip (GC.seq (GC.block ?_))
 obtain ⟨Hs117,hle118,h⟩:=h
 refine GC.any (Hs:=Hs117) (by kernel_rfl) hle118 (Zp 0 rfl Ym ?_)
 obtain ⟨hl119,h⟩:=h
 refine Zp 1 rfl (OV.cat (a:=x111.1) (b:=([110,101,118,101,114,32]:Str)) rfl rfl hl119) (Zp 2 rfl Yf ?_)
 obtain ⟨x120,v121,h⟩:=h
 refine Zp 3 rfl (Yo v121) (Zp 4 rfl Ym ?_)
 obtain ⟨p122,ha123,hb124,u125,hd126,h⟩:=h
 refine Zp 5 rfl (OV.indexAddr rfl rfl rfl rfl ha123 hb124 u125 hd126) (Zp 6 rfl Yf ?_)
 obtain ⟨x127,v128,h⟩:=h
 refine Zp 7 rfl (Yo v128) ?_
 obtain ⟨hl129,h⟩:=h
 refine Zp 8 rfl (OV.cat (a:=(x111.1++([110,101,118,101,114,32]:Str))) (b:=x127) rfl rfl hl129) ?_
 obtain ⟨hl130,h⟩:=h
 refine Zp 9 rfl (OV.cat (a:=((x111.1++([110,101,118,101,114,32]:Str))++x127)) (b:=([32,58,45,32]:Str)) rfl rfl hl130) (Zp 10 rfl Yf ?_)
 obtain ⟨x131,v132,h⟩:=h
 refine Zp 11 rfl (Yo v132) (Zp 12 rfl Ym ?_)
 obtain ⟨p133,ha134,hb135,u136,hd137,h⟩:=h
 refine Zp 13 rfl (OV.indexAddr rfl rfl rfl rfl ha134 hb135 u136 hd137) (Zp 14 rfl Yf ?_)
 obtain ⟨x138,v139,h⟩:=h
 refine Zp 15 rfl (Yo v139) (GA.eff 16 rfl (by kernel_rfl) (Zc h Qid ?_))
 rintro _ H142 ⟨r141,rfl,h⟩
 obtain ⟨hle140,h⟩:=h
 refine GA.back hle140 ?_
 obtain ⟨hl143,h⟩:=h
 refine Zp 17 rfl (OV.cat (a:=(((x111.1++([110,101,118,101,114,32]:Str))++x127)++([32,58,45,32]:Str))) (b:=r141) rfl rfl hl143) ?_
 obtain ⟨hl144,h⟩:=h
 refine Zp 18 rfl (OV.cat (a:=((((x111.1++([110,101,118,101,114,32]:Str))++x127)++([32,58,45,32]:Str))++r141)) (b:=([46,10]:Str)) rfl rfl hl144) (Zp 19 rfl Ya (GA.done (by kernel_rfl) (GL.nil_to (fun _ _ h=>h) (GC.region (Zm (Zi (.int .i64 (w .i64 (x111.2+1))) (Za ?_)))))))
 exact Yj I3 ((((((x111.1++([110,101,118,101,114,32]:Str))++x127)++([32,58,45,32]:Str))++r141)++([46,10]:Str)),(w .i64 (x111.2+1))) h
 refine GC.exit_to (fun _ _ h=>h) (Zo (Zm (Za (Za (GL.nil ?_)))))
 exact Y2 I3 ⟨x111.1,0,rfl,h⟩
def QmK (C:Ctx) (p_m:Qg) (K:Int→Heap→Prop) (H:Heap):Prop:=
 nw (Qg.c p_m) (fun b1 H2=>
 ldT H2 Qg.c (b1,0) fun x3=>
 QeX C x3 (fun r5 H6=>
 ift (decide ((r5:Int) > 64))
 (K 65 H6)
 (ldS H6 ((b1,0).1,(b1,0).2+0) fun x8=>
 Qbp C x8 (fun r10 H11=>
 jn (α:=Bool) (fun b12 H20=>
 jn (α:=Bool) (fun b21 H29=>
 jn (α:=Bool) (fun b30 H38=>
 jn (α:=Bool) (fun b39 H47=>
 jn (α:=Bool) (fun b48 H56=>
 ift b48
 (K 4 H56)
 (ldL H56 ((b1,0).1,(b1,0).2+1) fun x58=>
 jn (α:=Bool) (fun b60 H66=>
 jn (α:=Bool) (fun b67 H73=>
 jn (α:=Bool) (fun b74 H80=>
 jn (α:=Bool) (fun b81 H87=>
 jn (α:=Bool) (fun b88 H96=>
 jn (α:=Bool) (fun b97 H105=>
 ift b97
 (K 3 H105)
 (K 0 H105))
 (fun J98=>ift b88
 (J98 true H96)
 (ldL H96 ((b1,0).1,(b1,0).2+5) fun x101=>
 Qae C x101 (.func (.func 61) (List.toArray []) (List.toArray []):Value) (fun r103 H104=>
 J98 (!r103) H104) H96)))
 (fun J89=>ift b81
 (J89 true H87)
 (ldL H87 ((b1,0).1,(b1,0).2+4) fun x92=>
 Qao C x92 (.func (.func 60) (List.toArray []) (List.toArray []):Value) (fun r94 H95=>
 J89 (!r94) H95) H87)))
 (fun J82=>ift b74
 (J82 true H80)
 (ldL H80 ((b1,0).1,(b1,0).2+5) fun x85=>
 J82 (decide (((Sl.len x85:Int):Int) > 256)) H80)))
 (fun J75=>ift b67
 (J75 true H73)
 (ldL H73 ((b1,0).1,(b1,0).2+4) fun x78=>
 J75 (decide (((Sl.len x78:Int):Int) > 256)) H73)))
 (fun J68=>ift b60
 (J68 true H66)
 (ldL H66 ((b1,0).1,(b1,0).2+3) fun x71=>
 J68 (decide (((Sl.len x71:Int):Int) > 64)) H66)))
 (fun J61=>ift (decide (((Sl.len x58:Int):Int) > 8))
 (J61 true H56)
 (ldL H56 ((b1,0).1,(b1,0).2+2) fun x64=>
 J61 (decide (((Sl.len x64:Int):Int) > 64)) H56))))
 (fun J49=>ift b39
 (J49 true H47)
 (ldL H47 ((b1,0).1,(b1,0).2+5) fun x52=>
 Qae C x52 (.func (.func 57) (List.toArray []) (List.toArray []):Value) (fun r54 H55=>
 J49 (!r54) H55) H47)))
 (fun J40=>ift b30
 (J40 true H38)
 (ldL H38 ((b1,0).1,(b1,0).2+4) fun x43=>
 Qao C x43 (.func (.func 55) (List.toArray []) (List.toArray []):Value) (fun r45 H46=>
 J40 (!r45) H46) H38)))
 (fun J31=>ift b21
 (J31 true H29)
 (ldL H29 ((b1,0).1,(b1,0).2+3) fun x34=>
 Qan C x34 (.func (.func 52) (List.toArray []) (List.toArray []):Value) (fun r36 H37=>
 J31 (!r36) H37) H29)))
 (fun J22=>ift b12
 (J22 true H20)
 (ldL H20 ((b1,0).1,(b1,0).2+2) fun x25=>
 Qah C x25 (.func (.func 50) (List.toArray []) (List.toArray []):Value) (fun r27 H28=>
 J22 (!r27) H28) H20)))
 (fun J13=>ift (!r10)
 (J13 true H11)
 (ldL H11 ((b1,0).1,(b1,0).2+1) fun x16=>
 Qam C x16 (.func (.func 48) (List.toArray []) (List.toArray []):Value) (fun r18 H19=>
 J13 (!r18) H19) H11))) H6)) H2) H
theorem Qqg (C p_m K H) (h:QmK C p_m K H):QcY C p_m K H:=by
 refine Ye Tryz.func12 rfl Tryz.ntmps12 [(0,.agg (Qg.c p_m).toArray)] (Zo (GL.box (v:=.agg (Qg.c p_m).toArray) (cs:=Qg.c p_m) h trivial rfl rfl rfl ?_))
 intro b1 H2 h
 refine Za (GL.nil (GC.seq (Zo ?_)))
 obtain ⟨x3,v4,h⟩:=h
 refine Zv (OV.loadT rfl rfl rfl v4) (Zc h Qrn ?_)
 rintro _ H6 ⟨r5,rfl,h⟩
 refine Zi (.bool (decide ((r5:Int) > 64))) (GL.nil (Yd h (fun u7 h=>?_) fun u7 h=>?_))
 refine Zo (Za (GL.nil ?_))
 exact Y1 I3 ⟨65,rfl,h⟩
 refine GC.skip (GC.seq (Zo (Zf (Yl h fun x8 h=>?_))))
 refine Zc h QbC ?_
 rintro _ H11 ⟨r10,rfl,h⟩
 refine Zv (OV.not rfl) (Zm ?_)
 obtain ⟨J13,h,hR14⟩:=h
 refine GL.cut (α:=Bool) 5 J13 (fun b12=>[(15,.bool b12),(1,pv (some (b1,0)))]) ?_ ?_
 rcases h.em with ⟨u15,h⟩ | ⟨u15,h⟩
 refine Zk u15 (Zk u15 (Zk u15 (Zk u15 (Zt u15 ?_))))
 exact Yj I3 true h
 refine Zu u15 Yf ?_
 obtain ⟨x16,v17,h⟩:=h
 refine Zu u15 (Yo v17) (GL.call h (Yt u15) rfl QjC (vs:=[slv x16,.func (.func 48) (List.toArray []) (List.toArray [])]) rfl ?_)
 rintro _ H19 ⟨r18,rfl,h⟩
 refine Zu u15 (OV.not rfl) (Zn u15 ?_)
 exact Yj I3 (!r18) h
 intro b12 H20 h
 replace h:=hR14 b12 H20 h
 refine Zm ?_
 obtain ⟨J22,h,hR23⟩:=h
 refine GL.cut (α:=Bool) 5 J22 (fun b21=>[(21,.bool b21),(1,pv (some (b1,0)))]) ?_ ?_
 rcases h.em with ⟨u24,h⟩ | ⟨u24,h⟩
 refine Zk u24 (Zk u24 (Zk u24 (Zk u24 (Zt u24 ?_))))
 exact Yj I3 true h
 refine Zu u24 Yf ?_
 obtain ⟨x25,v26,h⟩:=h
 refine Zu u24 (Yo v26) (GL.call h (Yt u24) rfl Qi6 (vs:=[slv x25,.func (.func 50) (List.toArray []) (List.toArray [])]) rfl ?_)
 rintro _ H28 ⟨r27,rfl,h⟩
 refine Zu u24 (OV.not rfl) (Zn u24 ?_)
 exact Yj I3 (!r27) h
 intro b21 H29 h
 replace h:=hR23 b21 H29 h
 refine Zm ?_
 obtain ⟨J31,h,hR32⟩:=h
 refine GL.cut (α:=Bool) 5 J31 (fun b30=>[(27,.bool b30),(1,pv (some (b1,0)))]) ?_ ?_
 rcases h.em with ⟨u33,h⟩ | ⟨u33,h⟩
 refine Zk u33 (Zk u33 (Zk u33 (Zk u33 (Zt u33 ?_))))
 exact Yj I3 true h
 refine Zu u33 Yf ?_
 obtain ⟨x34,v35,h⟩:=h
 refine Zu u33 (Yo v35) (GL.call h (Yt u33) rfl QjD (vs:=[slv x34,.func (.func 52) (List.toArray []) (List.toArray [])]) rfl ?_)
 rintro _ H37 ⟨r36,rfl,h⟩
 refine Zu u33 (OV.not rfl) (Zn u33 ?_)
 exact Yj I3 (!r36) h
 intro b30 H38 h
 replace h:=hR32 b30 H38 h
 refine Zm ?_
 obtain ⟨J40,h,hR41⟩:=h
 refine GL.cut (α:=Bool) 5 J40 (fun b39=>[(33,.bool b39),(1,pv (some (b1,0)))]) ?_ ?_
 rcases h.em with ⟨u42,h⟩ | ⟨u42,h⟩
 refine Zk u42 (Zk u42 (Zk u42 (Zk u42 (Zt u42 ?_))))
 exact Yj I3 true h
 refine Zu u42 Yf ?_
 obtain ⟨x43,v44,h⟩:=h
 refine Zu u42 (Yo v44) (GL.call h (Yt u42) rfl Qgj (vs:=[slv x43,.func (.func 55) (List.toArray []) (List.toArray [])]) rfl ?_)
 rintro _ H46 ⟨r45,rfl,h⟩
 refine Zu u42 (OV.not rfl) (Zn u42 ?_)
 exact Yj I3 (!r45) h
 intro b39 H47 h
 replace h:=hR41 b39 H47 h
 refine Zm ?_
 obtain ⟨J49,h,hR50⟩:=h
 refine GL.cut (α:=Bool) 5 J49 (fun b48=>[(39,.bool b48),(1,pv (some (b1,0)))]) ?_ ?_
 rcases h.em with ⟨u51,h⟩ | ⟨u51,h⟩
 refine Zk u51 (Zk u51 (Zk u51 (Zk u51 (Zt u51 ?_))))
 exact Yj I3 true h
 refine Zu u51 Yf ?_
 obtain ⟨x52,v53,h⟩:=h
 refine Zu u51 (Yo v53) (GL.call h (Yt u51) rfl Qf0 (vs:=[slv x52,.func (.func 57) (List.toArray []) (List.toArray [])]) rfl ?_)
 rintro _ H55 ⟨r54,rfl,h⟩
 refine Zu u51 (OV.not rfl) (Zn u51 ?_)
 exact Yj I3 (!r54) h
 intro b48 H56 h
 replace h:=hR50 b48 H56 h
 refine GL.nil (Yd h (fun u57 h=>?_) fun u57 h=>?_)
 refine Zo (Za (GL.nil ?_))
 exact Y1 I3 ⟨4,rfl,h⟩
 refine GC.skip (GC.seq (Zo (Zf (Yl h fun x58 h=>?_))))
 refine Zq (Zi (.bool (decide (((Sl.len x58:Int):Int) > 8))) (Zm ?_))
 obtain ⟨J61,h,hR62⟩:=h
 refine GL.cut (α:=Bool) 5 J61 (fun b60=>[(49,.bool b60),(1,pv (some (b1,0)))]) ?_ ?_
 rcases h.em with ⟨u63,h⟩ | ⟨u63,h⟩
 refine Zk u63 (Zk u63 (Zk u63 (Zk u63 (Zt u63 ?_))))
 exact Yj I3 true h
 refine Zu u63 Yf ?_
 obtain ⟨x64,v65,h⟩:=h
 refine Zu u63 (Yo v65) (Zu u63 (OV.lenSl rfl rfl) (Zu u63 (OV.ibin (v:=.bool (decide (((Sl.len x64:Int):Int) > 64))) rfl rfl rfl) (Zn u63 ?_)))
 exact Yj I3 (decide (((Sl.len x64:Int):Int) > 64)) h
 intro b60 H66 h
 replace h:=hR62 b60 H66 h
 refine Zm ?_
 obtain ⟨J68,h,hR69⟩:=h
 refine GL.cut (α:=Bool) 5 J68 (fun b67=>[(55,.bool b67),(1,pv (some (b1,0)))]) ?_ ?_
 rcases h.em with ⟨u70,h⟩ | ⟨u70,h⟩
 refine Zk u70 (Zk u70 (Zk u70 (Zk u70 (Zt u70 ?_))))
 exact Yj I3 true h
 refine Zu u70 Yf ?_
 obtain ⟨x71,v72,h⟩:=h
 refine Zu u70 (Yo v72) (Zu u70 (OV.lenSl rfl rfl) (Zu u70 (OV.ibin (v:=.bool (decide (((Sl.len x71:Int):Int) > 64))) rfl rfl rfl) (Zn u70 ?_)))
 exact Yj I3 (decide (((Sl.len x71:Int):Int) > 64)) h
 intro b67 H73 h
 replace h:=hR69 b67 H73 h
 refine Zm ?_
 obtain ⟨J75,h,hR76⟩:=h
 refine GL.cut (α:=Bool) 5 J75 (fun b74=>[(61,.bool b74),(1,pv (some (b1,0)))]) ?_ ?_
 rcases h.em with ⟨u77,h⟩ | ⟨u77,h⟩
 refine Zk u77 (Zk u77 (Zk u77 (Zk u77 (Zt u77 ?_))))
 exact Yj I3 true h
 refine Zu u77 Yf ?_
 obtain ⟨x78,v79,h⟩:=h
 refine Zu u77 (Yo v79) (Zu u77 (OV.lenSl rfl rfl) (Zu u77 (OV.ibin (v:=.bool (decide (((Sl.len x78:Int):Int) > 256))) rfl rfl rfl) (Zn u77 ?_)))
 exact Yj I3 (decide (((Sl.len x78:Int):Int) > 256)) h
 intro b74 H80 h
 replace h:=hR76 b74 H80 h
 refine Zm ?_
 obtain ⟨J82,h,hR83⟩:=h
 refine GL.cut (α:=Bool) 5 J82 (fun b81=>[(67,.bool b81),(1,pv (some (b1,0)))]) ?_ ?_
 rcases h.em with ⟨u84,h⟩ | ⟨u84,h⟩
 refine Zk u84 (Zk u84 (Zk u84 (Zk u84 (Zt u84 ?_))))
 exact Yj I3 true h
 refine Zu u84 Yf ?_
 obtain ⟨x85,v86,h⟩:=h
 refine Zu u84 (Yo v86) (Zu u84 (OV.lenSl rfl rfl) (Zu u84 (OV.ibin (v:=.bool (decide (((Sl.len x85:Int):Int) > 256))) rfl rfl rfl) (Zn u84 ?_)))
 exact Yj I3 (decide (((Sl.len x85:Int):Int) > 256)) h
 intro b81 H87 h
 replace h:=hR83 b81 H87 h
 refine Zm ?_
 obtain ⟨J89,h,hR90⟩:=h
 refine GL.cut (α:=Bool) 5 J89 (fun b88=>[(73,.bool b88),(1,pv (some (b1,0)))]) ?_ ?_
 rcases h.em with ⟨u91,h⟩ | ⟨u91,h⟩
 refine Zk u91 (Zk u91 (Zk u91 (Zk u91 (Zt u91 ?_))))
 exact Yj I3 true h
 refine Zu u91 Yf ?_
 obtain ⟨x92,v93,h⟩:=h
 refine Zu u91 (Yo v93) (GL.call h (Yt u91) rfl Qgj (vs:=[slv x92,.func (.func 60) (List.toArray []) (List.toArray [])]) rfl ?_)
 rintro _ H95 ⟨r94,rfl,h⟩
 refine Zu u91 (OV.not rfl) (Zn u91 ?_)
 exact Yj I3 (!r94) h
 intro b88 H96 h
 replace h:=hR90 b88 H96 h
 refine Zm ?_
 obtain ⟨J98,h,hR99⟩:=h
 refine GL.cut (α:=Bool) 5 J98 (fun b97=>[(79,.bool b97)]) ?_ ?_
 rcases h.em with ⟨u100,h⟩ | ⟨u100,h⟩
 refine Zk u100 (Zk u100 (Zk u100 (Zk u100 (Zt u100 ?_))))
 exact Yj I3 true h
 refine Zu u100 Yf ?_
 obtain ⟨x101,v102,h⟩:=h
 refine Zu u100 (Yo v102) (GL.call h (Yt u100) rfl Qf0 (vs:=[slv x101,.func (.func 61) (List.toArray []) (List.toArray [])]) rfl ?_)
 rintro _ H104 ⟨r103,rfl,h⟩
 refine Zu u100 (OV.not rfl) (Zn u100 ?_)
 exact Yj I3 (!r103) h
 intro b97 H105 h
 replace h:=hR99 b97 H105 h
 refine GL.nil (Yd h (fun u106 h=>?_) fun u106 h=>?_)
 refine Zo (Za (GL.nil ?_))
 exact Y1 I3 ⟨3,rfl,h⟩
 refine GC.skip (Zo (Za (GL.nil ?_)))
 exact Y1 I3 ⟨0,rfl,h⟩
def Qlh (C:Ctx) (p_m:Qg) (K:Int→Heap→Prop) (H:Heap):Prop:=
 nw (Qg.c p_m) (fun b1 H2=>
 ldT H2 Qg.c (b1,0) fun x3=>
 Qd3 C x3 (fun r5 H6=>
 ift (decide ((r5:Int) > 64))
 (K 65 H6)
 (ldS H6 ((b1,0).1,(b1,0).2+0) fun x8=>
 Qat C x8 (fun r10 H11=>
 jn (α:=Bool) (fun b12 H20=>
 jn (α:=Bool) (fun b21 H29=>
 lp (α:=Bool×Int) (b21,0) H29 (fun x30 J31 H32=>
 ldL H32 ((b1,0).1,(b1,0).2+1) fun x33=>
 ift ((decide ((x30.2:Int) < (Sl.len x33:Int))) && x30.1)
 (ldL H32 ((b1,0).1,(b1,0).2+1) fun x37=>
 ixa x37 x30.2 fun p39=>
 ldS H32 ((p39.1,p39.2+(x30.2:Int).toNat*3).1,(p39.1,p39.2+(x30.2:Int).toNat*3).2+2) fun x44=>
 Qat C x44 (fun r46 H47=>
 J31 (r46,(w .i64 (x30.2+1))) H47) H32)
 (lp (α:=Bool×Int) (x30.1,0) H32 (fun x48 J49 H50=>
 ldL H50 ((b1,0).1,(b1,0).2+3) fun x51=>
 ift ((decide ((x48.2:Int) < (Sl.len x51:Int))) && x48.1)
 (ldL H50 ((b1,0).1,(b1,0).2+3) fun x55=>
 ixa x55 x48.2 fun p57=>
 ldS H50 ((p57.1,p57.2+(x48.2:Int).toNat*6).1,(p57.1,p57.2+(x48.2:Int).toNat*6).2+4) fun x62=>
 Qat C x62 (fun r64 H65=>
 jn (α:=Bool) (fun b66 H81=>
 J49 (b66,(w .i64 (x48.2+1))) H81)
 (fun J67=>ift r64
 (ldL H65 ((b1,0).1,(b1,0).2+3) fun x70=>
 ixa x70 x48.2 fun p72=>
 ldL H65 ((p72.1,p72.2+(x48.2:Int).toNat*6).1,(p72.1,p72.2+(x48.2:Int).toNat*6).2+5) fun x77=>
 Qb0 C x77 true (fun r79 H80=>
 J67 r79 H80) H65)
 (J67 false H65))) H50)
 (ldL H50 ((b1,0).1,(b1,0).2+1) fun x82=>
 jn (α:=Bool) (fun b84 H90=>
 jn (α:=Bool) (fun b91 H97=>
 jn (α:=Bool) (fun b98 H104=>
 jn (α:=Bool) (fun b105 H111=>
 lp (α:=Bool×Bool×Int) (x48.1,b105,0) H111 (fun x112 J113 H114=>
 ldL H114 ((b1,0).1,(b1,0).2+5) fun x115=>
 ift ((decide ((x112.2.2:Int) < (Sl.len x115:Int))) && x112.1)
 (ldL H114 ((b1,0).1,(b1,0).2+5) fun x119=>
 ixa x119 x112.2.2 fun p121=>
 ldS H114 ((p121.1,p121.2+(x112.2.2:Int).toNat*4).1,(p121.1,p121.2+(x112.2.2:Int).toNat*4).2+2) fun x126=>
 Qat C x126 (fun r128 H129=>
 jn (α:=Bool) (fun b130 H143=>
 jn (α:=Bool) (fun b144 H159=>
 jn (α:=Bool) (fun b160 H173=>
 J113 (b144,b160,(w .i64 (x112.2.2+1))) H173)
 (fun J161=>ift x112.2.1
 (J161 true H159)
 (ldL H159 ((b1,0).1,(b1,0).2+5) fun x164=>
 ixa x164 x112.2.2 fun p166=>
 ldL H159 ((p166.1,p166.2+(x112.2.2:Int).toNat*4).1,(p166.1,p166.2+(x112.2.2:Int).toNat*4).2+3) fun x171=>
 J161 (decide (((Sl.len x171:Int):Int) > 12)) H159)))
 (fun J145=>ift b130
 (ldL H143 ((b1,0).1,(b1,0).2+5) fun x148=>
 ixa x148 x112.2.2 fun p150=>
 ldL H143 ((p150.1,p150.2+(x112.2.2:Int).toNat*4).1,(p150.1,p150.2+(x112.2.2:Int).toNat*4).2+3) fun x155=>
 QcW C x155 (fun r157 H158=>
 J145 r157 H158) H143)
 (J145 false H143)))
 (fun J131=>ift r128
 (ldL H129 ((b1,0).1,(b1,0).2+5) fun x134=>
 ixa x134 x112.2.2 fun p136=>
 ldL H129 ((p136.1,p136.2+(x112.2.2:Int).toNat*4).1,(p136.1,p136.2+(x112.2.2:Int).toNat*4).2+3) fun x141=>
 J131 (decide (((Sl.len x141:Int):Int) > 0)) H129)
 (J131 false H129))) H114)
 (ift (!x112.1)
 (K 4 H114)
 (lp (α:=Bool×Int) (x112.2.1,0) H114 (fun x175 J176 H177=>
 ldL H177 ((b1,0).1,(b1,0).2+4) fun x178=>
 ift (decide ((x175.2:Int) < (Sl.len x178:Int)))
 (jn (α:=Bool) (fun b181 H194=>
 J176 (b181,(w .i64 (x175.2+1))) H194)
 (fun J182=>ift x175.1
 (J182 true H177)
 (ldL H177 ((b1,0).1,(b1,0).2+4) fun x185=>
 ixa x185 x175.2 fun p187=>
 ldL H177 ((p187.1,p187.2+(x175.2:Int).toNat*6).1,(p187.1,p187.2+(x175.2:Int).toNat*6).2+5) fun x192=>
 J182 (decide (((Sl.len x192:Int):Int) > 12)) H177)))
 (ift x175.1
 (K 3 H177)
 (K 0 H177)))))))
 (fun J106=>ift b98
 (J106 true H104)
 (ldL H104 ((b1,0).1,(b1,0).2+5) fun x109=>
 J106 (decide (((Sl.len x109:Int):Int) > 256)) H104)))
 (fun J99=>ift b91
 (J99 true H97)
 (ldL H97 ((b1,0).1,(b1,0).2+4) fun x102=>
 J99 (decide (((Sl.len x102:Int):Int) > 256)) H97)))
 (fun J92=>ift b84
 (J92 true H90)
 (ldL H90 ((b1,0).1,(b1,0).2+3) fun x95=>
 J92 (decide (((Sl.len x95:Int):Int) > 64)) H90)))
 (fun J85=>ift (decide (((Sl.len x82:Int):Int) > 8))
 (J85 true H50)
 (ldL H50 ((b1,0).1,(b1,0).2+2) fun x88=>
 J85 (decide (((Sl.len x88:Int):Int) > 64)) H50)))))))
 (fun J22=>ift b12
 (ldL H20 ((b1,0).1,(b1,0).2+4) fun x25=>
 Qc9 C x25 (fun r27 H28=>
 J22 r27 H28) H20)
 (J22 false H20)))
 (fun J13=>ift r10
 (ldL H11 ((b1,0).1,(b1,0).2+2) fun x16=>
 Qda C x16 (fun r18 H19=>
 J13 r18 H19) H11)
 (J13 false H11))) H6)) H2) H
theorem Qo1 (C p_m K H) (h:Qlh C p_m K H):Qcm C p_m K H:=by
 refine Ye Tryz.func13 rfl Tryz.ntmps13 [(0,.agg (Qg.c p_m).toArray)] (Zo (GL.box (v:=.agg (Qg.c p_m).toArray) (cs:=Qg.c p_m) h trivial rfl rfl rfl ?_))
 intro b1 H2 h
 refine Za (GL.nil (GC.seq (Zo ?_)))
 obtain ⟨x3,v4,h⟩:=h
 refine Zv (OV.loadT rfl rfl rfl v4) (Zc h QqA ?_)
 rintro _ H6 ⟨r5,rfl,h⟩
 refine Zi (.bool (decide ((r5:Int) > 64))) (GL.nil (Yd h (fun u7 h=>?_) fun u7 h=>?_))
 refine Zo (Za (GL.nil ?_))
 exact Y1 I3 ⟨65,rfl,h⟩
 refine GC.skip (Zo (Zf (Yl h fun x8 h=>?_)))
 refine Zc h QaB ?_
 rintro _ H11 ⟨r10,rfl,h⟩
 refine Zm ?_
 obtain ⟨J13,h,hR14⟩:=h
 refine GL.cut (α:=Bool) 4 J13 (fun b12=>[(19,.bool b12),(1,pv (some (b1,0)))]) ?_ ?_
 rcases h.em with ⟨u15,h⟩ | ⟨u15,h⟩
 refine Zu u15 Yf ?_
 obtain ⟨x16,v17,h⟩:=h
 refine Zu u15 (Yo v17) (GL.call h (Yt u15) rfl Qpu (vs:=[slv x16]) rfl ?_)
 rintro _ H19 ⟨r18,rfl,h⟩
 refine Zt u15 ?_
 exact Yj I3 r18 h
 refine Zk u15 (Zk u15 (Zk u15 (Zn u15 ?_)))
 exact Yj I3 false h
 intro b12 H20 h
 replace h:=hR14 b12 H20 h
 refine Zm ?_
 obtain ⟨J22,h,hR23⟩:=h
 refine GL.cut (α:=Bool) 4 J22 (fun b21=>[(24,.bool b21),(1,pv (some (b1,0)))]) ?_ ?_
 rcases h.em with ⟨u24,h⟩ | ⟨u24,h⟩
 refine Zu u24 Yf ?_
 obtain ⟨x25,v26,h⟩:=h
 refine Zu u24 (Yo v26) (GL.call h (Yt u24) rfl Qpt (vs:=[slv x25]) rfl ?_)
 rintro _ H28 ⟨r27,rfl,h⟩
 refine Zt u24 ?_
 exact Yj I3 r27 h
 refine Zk u24 (Zk u24 (Zk u24 (Zn u24 ?_)))
 exact Yj I3 false h
 intro b21 H29 h
 replace h:=hR23 b21 H29 h
 refine Za (GL.nil (GC.seq (Zo (Za (GL.nil (GC.block (Yp h (fun x30=>[(3,.bool x30.1),(4,.int .i64 x30.2),(1,pv (some (b1,0)))]) ?_)))))))
 intro x30 H32 J31 h
 refine GC.seq (Zo (Zm (Zf (Yl h fun x33 h=>?_))))
 refine Zq (Zi (.bool (decide ((x30.2:Int) < (Sl.len x33:Int)))) (Zm (GL.cut0 2 [(32,.bool ((decide ((x30.2:Int) < (Sl.len x33:Int))) && x30.1)),(1,pv (some (b1,0))),(3,.bool x30.1),(4,.int .i64 x30.2)] ?_ ?_)))
 rcases Zb (decide ((x30.2:Int) < (Sl.len x33:Int))) with u35 | u35
 refine Zu u35 Ym (Zt u35 ?_)
 exact GL.jump0 (fun _ _ h=>h) () rfl ⟨(by rw [u35]; rfl),rfl,rfl,rfl,trivial⟩
 refine Zk u35 (Zn u35 ?_)
 exact GL.jump0 (fun _ _ h=>h) () rfl ⟨(by rw [u35]; rfl),rfl,rfl,rfl,trivial⟩
 refine GL.nil (Yd h (fun u36 h=>?_) fun u36 h=>?_)
 refine GC.skip (GC.seq (GC.block (GC.region (Zf (Yl h fun x37 h=>?_)))))
 refine Zm (Yx h fun p39 h=>?_)
 refine Zf (Yl h fun x44 h=>?_)
 refine Zc h QaB ?_
 rintro _ H47 ⟨r46,rfl,h⟩
 refine Za (GL.nil_to (fun _ _ h=>h) (GC.region (Zm (Zi (.int .i64 (w .i64 (x30.2+1))) (Za ?_)))))
 exact Yj I3 (r46,(w .i64 (x30.2+1))) h
 refine GC.exit_to (fun _ _ h=>h) (GC.seq (Zo (Za (GL.nil (GC.block (Yp h (fun x48=>[(3,.bool x48.1),(5,.int .i64 x48.2),(1,pv (some (b1,0)))]) ?_))))))
 intro x48 H50 J49 h
 refine GC.seq (Zo (Zm (Zf (Yl h fun x51 h=>?_))))
 refine Zq (Zi (.bool (decide ((x48.2:Int) < (Sl.len x51:Int)))) (Zm (GL.cut0 2 [(49,.bool ((decide ((x48.2:Int) < (Sl.len x51:Int))) && x48.1)),(1,pv (some (b1,0))),(3,.bool x48.1),(5,.int .i64 x48.2)] ?_ ?_)))
 rcases Zb (decide ((x48.2:Int) < (Sl.len x51:Int))) with u53 | u53
 refine Zu u53 Ym (Zt u53 ?_)
 exact GL.jump0 (fun _ _ h=>h) () rfl ⟨(by rw [u53]; rfl),rfl,rfl,rfl,trivial⟩
 refine Zk u53 (Zn u53 ?_)
 exact GL.jump0 (fun _ _ h=>h) () rfl ⟨(by rw [u53]; rfl),rfl,rfl,rfl,trivial⟩
 refine GL.nil (Yd h (fun u54 h=>?_) fun u54 h=>?_)
 refine GC.skip (GC.seq (GC.block (GC.region (Zf (Yl h fun x55 h=>?_)))))
 refine Zm (Yx h fun p57 h=>?_)
 refine Zf (Yl h fun x62 h=>?_)
 refine Zc h QaB ?_
 rintro _ H65 ⟨r64,rfl,h⟩
 refine Zm ?_
 obtain ⟨J67,h,hR68⟩:=h
 refine GL.cut (α:=Bool) 8 J67 (fun b66=>[(67,.bool b66),(1,pv (some (b1,0))),(5,.int .i64 x48.2)]) ?_ ?_
 rcases h.em with ⟨u69,h⟩ | ⟨u69,h⟩
 refine Zu u69 Yf ?_
 obtain ⟨x70,v71,h⟩:=h
 refine Zu u69 (Yo v71) (Zu u69 Ym ?_)
 obtain ⟨p72,ha73,hb74,u75,hd76,h⟩:=h
 refine Zu u69 (OV.indexAddr rfl rfl rfl rfl ha73 hb74 u75 hd76) (Zu u69 Yf ?_)
 obtain ⟨x77,v78,h⟩:=h
 refine Zu u69 (Yo v78) (GL.call h (Yt u69) rfl Qj7 (vs:=[slv x77,.bool true]) rfl ?_)
 rintro _ H80 ⟨r79,rfl,h⟩
 refine Zt u69 ?_
 exact Yj I3 r79 h
 refine Zk u69 (Zk u69 (Zk u69 (Zk u69 (Zk u69 (Zk u69 (Zk u69 (Zn u69 ?_)))))))
 exact Yj I3 false h
 intro b66 H81 h
 replace h:=hR68 b66 H81 h
 refine Za (GL.nil_to (fun _ _ h=>h) (GC.region (Zm (Zi (.int .i64 (w .i64 (x48.2+1))) (Za ?_)))))
 exact Yj I3 (b66,(w .i64 (x48.2+1))) h
 refine GC.exit_to (fun _ _ h=>h) (Zo (Zf ?_))
 refine Yl h fun x82 h=>?_
 refine Zq (Zi (.bool (decide (((Sl.len x82:Int):Int) > 8))) (Zm ?_))
 obtain ⟨J85,h,hR86⟩:=h
 refine GL.cut (α:=Bool) 5 J85 (fun b84=>[(77,.bool b84),(1,pv (some (b1,0))),(3,.bool x48.1)]) ?_ ?_
 rcases h.em with ⟨u87,h⟩ | ⟨u87,h⟩
 refine Zk u87 (Zk u87 (Zk u87 (Zk u87 (Zt u87 ?_))))
 exact Yj I3 true h
 refine Zu u87 Yf ?_
 obtain ⟨x88,v89,h⟩:=h
 refine Zu u87 (Yo v89) (Zu u87 (OV.lenSl rfl rfl) (Zu u87 (OV.ibin (v:=.bool (decide (((Sl.len x88:Int):Int) > 64))) rfl rfl rfl) (Zn u87 ?_)))
 exact Yj I3 (decide (((Sl.len x88:Int):Int) > 64)) h
 intro b84 H90 h
 replace h:=hR86 b84 H90 h
 refine Zm ?_
 obtain ⟨J92,h,hR93⟩:=h
 refine GL.cut (α:=Bool) 5 J92 (fun b91=>[(83,.bool b91),(1,pv (some (b1,0))),(3,.bool x48.1)]) ?_ ?_
 rcases h.em with ⟨u94,h⟩ | ⟨u94,h⟩
 refine Zk u94 (Zk u94 (Zk u94 (Zk u94 (Zt u94 ?_))))
 exact Yj I3 true h
 refine Zu u94 Yf ?_
 obtain ⟨x95,v96,h⟩:=h
 refine Zu u94 (Yo v96) (Zu u94 (OV.lenSl rfl rfl) (Zu u94 (OV.ibin (v:=.bool (decide (((Sl.len x95:Int):Int) > 64))) rfl rfl rfl) (Zn u94 ?_)))
 exact Yj I3 (decide (((Sl.len x95:Int):Int) > 64)) h
 intro b91 H97 h
 replace h:=hR93 b91 H97 h
 refine Zm ?_
 obtain ⟨J99,h,hR100⟩:=h
 refine GL.cut (α:=Bool) 5 J99 (fun b98=>[(89,.bool b98),(1,pv (some (b1,0))),(3,.bool x48.1)]) ?_ ?_
 rcases h.em with ⟨u101,h⟩ | ⟨u101,h⟩
 refine Zk u101 (Zk u101 (Zk u101 (Zk u101 (Zt u101 ?_))))
 exact Yj I3 true h
 refine Zu u101 Yf ?_
 obtain ⟨x102,v103,h⟩:=h
 refine Zu u101 (Yo v103) (Zu u101 (OV.lenSl rfl rfl) (Zu u101 (OV.ibin (v:=.bool (decide (((Sl.len x102:Int):Int) > 256))) rfl rfl rfl) (Zn u101 ?_)))
 exact Yj I3 (decide (((Sl.len x102:Int):Int) > 256)) h
 intro b98 H104 h
 replace h:=hR100 b98 H104 h
 refine Zm ?_
 obtain ⟨J106,h,hR107⟩:=h
 refine GL.cut (α:=Bool) 5 J106 (fun b105=>[(95,.bool b105),(1,pv (some (b1,0))),(3,.bool x48.1)]) ?_ ?_
 rcases h.em with ⟨u108,h⟩ | ⟨u108,h⟩
 refine Zk u108 (Zk u108 (Zk u108 (Zk u108 (Zt u108 ?_))))
 exact Yj I3 true h
 refine Zu u108 Yf ?_
 obtain ⟨x109,v110,h⟩:=h
 refine Zu u108 (Yo v110) (Zu u108 (OV.lenSl rfl rfl) (Zu u108 (OV.ibin (v:=.bool (decide (((Sl.len x109:Int):Int) > 256))) rfl rfl rfl) (Zn u108 ?_)))
 exact Yj I3 (decide (((Sl.len x109:Int):Int) > 256)) h
 intro b105 H111 h
 replace h:=hR107 b105 H111 h
 refine Za (GL.nil (GC.seq (Zo (Za (GL.nil (GC.block (Yp h (fun x112=>[(3,.bool x112.1),(6,.bool x112.2.1),(7,.int .i64 x112.2.2),(1,pv (some (b1,0)))]) ?_)))))))
 intro x112 H114 J113 h
 refine GC.seq (Zo (Zm (Zf (Yl h fun x115 h=>?_))))
 refine Zq (Zi (.bool (decide ((x112.2.2:Int) < (Sl.len x115:Int)))) (Zm (GL.cut0 2 [(103,.bool ((decide ((x112.2.2:Int) < (Sl.len x115:Int))) && x112.1)),(1,pv (some (b1,0))),(3,.bool x112.1),(6,.bool x112.2.1),(7,.int .i64 x112.2.2)] ?_ ?_)))
 rcases Zb (decide ((x112.2.2:Int) < (Sl.len x115:Int))) with u117 | u117
 refine Zu u117 Ym (Zt u117 ?_)
 exact GL.jump0 (fun _ _ h=>h) () rfl ⟨(by rw [u117]; rfl),rfl,rfl,rfl,rfl,trivial⟩
 refine Zk u117 (Zn u117 ?_)
 exact GL.jump0 (fun _ _ h=>h) () rfl ⟨(by rw [u117]; rfl),rfl,rfl,rfl,rfl,trivial⟩
 refine GL.nil (Yd h (fun u118 h=>?_) fun u118 h=>?_)
 refine GC.skip (GC.seq (GC.block (Zo (Zf (Yl h fun x119 h=>?_)))))
 refine Zm (Yx h fun p121 h=>?_)
 refine Zf (Yl h fun x126 h=>?_)
 refine Zc h QaB ?_
 rintro _ H129 ⟨r128,rfl,h⟩
 refine Zm ?_
 obtain ⟨J131,h,hR132⟩:=h
 refine GL.cut (α:=Bool) 9 J131 (fun b130=>[(122,.bool b130),(1,pv (some (b1,0))),(6,.bool x112.2.1),(7,.int .i64 x112.2.2)]) ?_ ?_
 rcases h.em with ⟨u133,h⟩ | ⟨u133,h⟩
 refine Zu u133 Yf ?_
 obtain ⟨x134,v135,h⟩:=h
 refine Zu u133 (Yo v135) (Zu u133 Ym ?_)
 obtain ⟨p136,ha137,hb138,u139,hd140,h⟩:=h
 refine Zu u133 (OV.indexAddr rfl rfl rfl rfl ha137 hb138 u139 hd140) (Zu u133 Yf ?_)
 obtain ⟨x141,v142,h⟩:=h
 refine Zu u133 (Yo v142) (Zu u133 (OV.lenSl rfl rfl) (Zu u133 (OV.ibin (v:=.bool (decide (((Sl.len x141:Int):Int) > 0))) rfl rfl rfl) (Zt u133 ?_)))
 exact Yj I3 (decide (((Sl.len x141:Int):Int) > 0)) h
 refine Zk u133 (Zk u133 (Zk u133 (Zk u133 (Zk u133 (Zk u133 (Zk u133 (Zk u133 (Zn u133 ?_))))))))
 exact Yj I3 false h
 intro b130 H143 h
 replace h:=hR132 b130 H143 h
 refine Zm ?_
 obtain ⟨J145,h,hR146⟩:=h
 refine GL.cut (α:=Bool) 8 J145 (fun b144=>[(131,.bool b144),(1,pv (some (b1,0))),(6,.bool x112.2.1),(7,.int .i64 x112.2.2)]) ?_ ?_
 rcases h.em with ⟨u147,h⟩ | ⟨u147,h⟩
 refine Zu u147 Yf ?_
 obtain ⟨x148,v149,h⟩:=h
 refine Zu u147 (Yo v149) (Zu u147 Ym ?_)
 obtain ⟨p150,ha151,hb152,u153,hd154,h⟩:=h
 refine Zu u147 (OV.indexAddr rfl rfl rfl rfl ha151 hb152 u153 hd154) (Zu u147 Yf ?_)
 obtain ⟨x155,v156,h⟩:=h
 refine Zu u147 (Yo v156) (GL.call h (Yt u147) rfl Qmm (vs:=[slv x155]) rfl ?_)
 rintro _ H158 ⟨r157,rfl,h⟩
 refine Zt u147 ?_
 exact Yj I3 r157 h
 refine Zk u147 (Zk u147 (Zk u147 (Zk u147 (Zk u147 (Zk u147 (Zk u147 (Zn u147 ?_)))))))
 exact Yj I3 false h
 intro b144 H159 h
 replace h:=hR146 b144 H159 h
 refine Za (GL.nil (GC.region (Zm (Zm ?_))))
 obtain ⟨J161,h,hR162⟩:=h
 refine GL.cut (α:=Bool) 9 J161 (fun b160=>[(142,.bool b160),(1,pv (some (b1,0))),(3,.bool b144),(7,.int .i64 x112.2.2)]) ?_ ?_
 rcases h.em with ⟨u163,h⟩ | ⟨u163,h⟩
 refine Zk u163 (Zk u163 (Zk u163 (Zk u163 (Zk u163 (Zk u163 (Zk u163 (Zk u163 (Zt u163 ?_))))))))
 exact Yj I3 true h
 refine Zu u163 Yf ?_
 obtain ⟨x164,v165,h⟩:=h
 refine Zu u163 (Yo v165) (Zu u163 Ym ?_)
 obtain ⟨p166,ha167,hb168,u169,hd170,h⟩:=h
 refine Zu u163 (OV.indexAddr rfl rfl rfl rfl ha167 hb168 u169 hd170) (Zu u163 Yf ?_)
 obtain ⟨x171,v172,h⟩:=h
 refine Zu u163 (Yo v172) (Zu u163 (OV.lenSl rfl rfl) (Zu u163 (OV.ibin (v:=.bool (decide (((Sl.len x171:Int):Int) > 12))) rfl rfl rfl) (Zn u163 ?_)))
 exact Yj I3 (decide (((Sl.len x171:Int):Int) > 12)) h
 intro b160 H173 h
 replace h:=hR162 b160 H173 h
 refine Za (GL.nil_to (fun _ _ h=>h) (GC.region (Zm (Zi (.int .i64 (w .i64 (x112.2.2+1))) (Za ?_)))))
 exact Yj I3 (b144,b160,(w .i64 (x112.2.2+1))) h
 refine GC.exit_to (fun _ _ h=>h) (GC.seq (Zo (Zm (Zv (OV.not rfl) (GL.nil ?_)))))
 refine Yd h (fun u174 h=>?_) fun u174 h=>?_
 refine Zo (Za (GL.nil ?_))
 exact Y1 I3 ⟨4,rfl,h⟩
 refine GC.skip (GC.seq (Zo (Za (GL.nil (GC.block (Yp h (fun x175=>[(6,.bool x175.1),(8,.int .i64 x175.2),(1,pv (some (b1,0)))]) ?_))))))
 intro x175 H177 J176 h
 refine GC.seq (Zo (Zm (Zf (Yl h fun x178 h=>?_))))
 refine Zq (Zi (.bool (decide ((x175.2:Int) < (Sl.len x178:Int)))) (GL.nil (Yd h (fun u180 h=>?_) fun u180 h=>?_)))
 refine GC.skip (GC.seq (GC.block (GC.region (Zm (Zm ?_)))))
 obtain ⟨J182,h,hR183⟩:=h
 refine GL.cut (α:=Bool) 9 J182 (fun b181=>[(162,.bool b181),(1,pv (some (b1,0))),(8,.int .i64 x175.2)]) ?_ ?_
 rcases h.em with ⟨u184,h⟩ | ⟨u184,h⟩
 refine Zk u184 (Zk u184 (Zk u184 (Zk u184 (Zk u184 (Zk u184 (Zk u184 (Zk u184 (Zt u184 ?_))))))))
 exact Yj I3 true h
 refine Zu u184 Yf ?_
 obtain ⟨x185,v186,h⟩:=h
 refine Zu u184 (Yo v186) (Zu u184 Ym ?_)
 obtain ⟨p187,ha188,hb189,u190,hd191,h⟩:=h
 refine Zu u184 (OV.indexAddr rfl rfl rfl rfl ha188 hb189 u190 hd191) (Zu u184 Yf ?_)
 obtain ⟨x192,v193,h⟩:=h
 refine Zu u184 (Yo v193) (Zu u184 (OV.lenSl rfl rfl) (Zu u184 (OV.ibin (v:=.bool (decide (((Sl.len x192:Int):Int) > 12))) rfl rfl rfl) (Zn u184 ?_)))
 exact Yj I3 (decide (((Sl.len x192:Int):Int) > 12)) h
 intro b181 H194 h
 replace h:=hR183 b181 H194 h
 refine Za (GL.nil_to (fun _ _ h=>h) (GC.region (Zm (Zi (.int .i64 (w .i64 (x175.2+1))) (Za ?_)))))
 exact Yj I3 (b181,(w .i64 (x175.2+1))) h
 refine GC.exit_to (fun _ _ h=>h) (GC.seq (Zo (Zm (GL.nil ?_))))
 refine Yd h (fun u195 h=>?_) fun u195 h=>?_
 refine Zo (Za (GL.nil ?_))
 exact Y1 I3 ⟨3,rfl,h⟩
 refine GC.skip (Zo (Za (GL.nil ?_)))
 exact Y1 I3 ⟨0,rfl,h⟩
def Qns (C:Ctx) (p_a:Qg) (p_b:Qg) (K:Bool→Heap→Prop) (H:Heap):Prop:=
 nw (Qg.c p_a) (fun b1 H2=>
 nw (Qg.c p_b) (fun b3 H4=>
 ldS H4 ((b1,0).1,(b1,0).2+0) fun x5=>
 ldS H4 ((b3,0).1,(b3,0).2+0) fun x7=>
 jn (α:=Bool) (fun b9 H19=>
 jn (α:=Bool) (fun b20 H30=>
 jn (α:=Bool) (fun b31 H41=>
 jn (α:=Bool) (fun b42 H52=>
 jn (α:=Bool) (fun b53 H63=>
 K b53 H63)
 (fun J54=>ift b42
 (ldL H52 ((b1,0).1,(b1,0).2+5) fun x57=>
 ldL H52 ((b3,0).1,(b3,0).2+5) fun x59=>
 Qy C x57 x59 (.func (.func 86) (List.toArray []) (List.toArray []):Value) (fun r61 H62=>
 J54 r61 H62) H52)
 (J54 false H52)))
 (fun J43=>ift b31
 (ldL H41 ((b1,0).1,(b1,0).2+4) fun x46=>
 ldL H41 ((b3,0).1,(b3,0).2+4) fun x48=>
 QA C x46 x48 (.func (.func 80) (List.toArray []) (List.toArray []):Value) (fun r50 H51=>
 J43 r50 H51) H41)
 (J43 false H41)))
 (fun J32=>ift b20
 (ldL H30 ((b1,0).1,(b1,0).2+3) fun x35=>
 ldL H30 ((b3,0).1,(b3,0).2+3) fun x37=>
 Qx C x35 x37 (.func (.func 78) (List.toArray []) (List.toArray []):Value) (fun r39 H40=>
 J32 r39 H40) H30)
 (J32 false H30)))
 (fun J21=>ift b9
 (ldL H19 ((b1,0).1,(b1,0).2+2) fun x24=>
 ldL H19 ((b3,0).1,(b3,0).2+2) fun x26=>
 Qv C x24 x26 (.func (.func 71) (List.toArray []) (List.toArray []):Value) (fun r28 H29=>
 J21 r28 H29) H19)
 (J21 false H19)))
 (fun J10=>ift (x5 == x7)
 (ldL H4 ((b1,0).1,(b1,0).2+1) fun x13=>
 ldL H4 ((b3,0).1,(b3,0).2+1) fun x15=>
 Qw C x13 x15 (.func (.func 69) (List.toArray []) (List.toArray []):Value) (fun r17 H18=>
 J10 r17 H18) H4)
 (J10 false H4))) H2) H
theorem QqM (C p_a p_b K H) (h:Qns C p_a p_b K H):QeW C p_a p_b K H:=by
 refine Ye Tryz.func14 rfl Tryz.ntmps14 [(0,.agg (Qg.c p_a).toArray),(1,.agg (Qg.c p_b).toArray)] (Zo (GL.box (v:=.agg (Qg.c p_a).toArray) (cs:=Qg.c p_a) h trivial rfl rfl rfl ?_))
 intro b1 H2 h
 refine GL.box (v:=.agg (Qg.c p_b).toArray) (cs:=Qg.c p_b) h trivial rfl rfl rfl ?_
 intro b3 H4 h
 refine Za (GL.nil (Zo (Zf (Yl h fun x5 h=>?_))))
 refine Zf (Yl h fun x7 h=>?_)
 refine Zv (OV.sbin (a:=x5) (b:=x7) (v:=.bool (x5 == x7)) rfl rfl rfl) (Zm ?_)
 obtain ⟨J10,h,hR11⟩:=h
 refine GL.cut (α:=Bool) 6 J10 (fun b9=>[(16,.bool b9),(2,pv (some (b1,0))),(3,pv (some (b3,0)))]) ?_ ?_
 rcases h.em with ⟨u12,h⟩ | ⟨u12,h⟩
 refine Zu u12 Yf ?_
 obtain ⟨x13,v14,h⟩:=h
 refine Zu u12 (Yo v14) (Zu u12 Yf ?_)
 obtain ⟨x15,v16,h⟩:=h
 refine Zu u12 (Yo v16) (GL.call h (Yt u12) rfl Qa3 (vs:=[slv x13,slv x15,.func (.func 69) (List.toArray []) (List.toArray [])]) rfl ?_)
 rintro _ H18 ⟨r17,rfl,h⟩
 refine Zt u12 ?_
 exact Yj I3 r17 h
 refine Zk u12 (Zk u12 (Zk u12 (Zk u12 (Zk u12 (Zn u12 ?_)))))
 exact Yj I3 false h
 intro b9 H19 h
 replace h:=hR11 b9 H19 h
 refine Zm ?_
 obtain ⟨J21,h,hR22⟩:=h
 refine GL.cut (α:=Bool) 6 J21 (fun b20=>[(23,.bool b20),(2,pv (some (b1,0))),(3,pv (some (b3,0)))]) ?_ ?_
 rcases h.em with ⟨u23,h⟩ | ⟨u23,h⟩
 refine Zu u23 Yf ?_
 obtain ⟨x24,v25,h⟩:=h
 refine Zu u23 (Yo v25) (Zu u23 Yf ?_)
 obtain ⟨x26,v27,h⟩:=h
 refine Zu u23 (Yo v27) (GL.call h (Yt u23) rfl QaJ (vs:=[slv x24,slv x26,.func (.func 71) (List.toArray []) (List.toArray [])]) rfl ?_)
 rintro _ H29 ⟨r28,rfl,h⟩
 refine Zt u23 ?_
 exact Yj I3 r28 h
 refine Zk u23 (Zk u23 (Zk u23 (Zk u23 (Zk u23 (Zn u23 ?_)))))
 exact Yj I3 false h
 intro b20 H30 h
 replace h:=hR22 b20 H30 h
 refine Zm ?_
 obtain ⟨J32,h,hR33⟩:=h
 refine GL.cut (α:=Bool) 6 J32 (fun b31=>[(30,.bool b31),(2,pv (some (b1,0))),(3,pv (some (b3,0)))]) ?_ ?_
 rcases h.em with ⟨u34,h⟩ | ⟨u34,h⟩
 refine Zu u34 Yf ?_
 obtain ⟨x35,v36,h⟩:=h
 refine Zu u34 (Yo v36) (Zu u34 Yf ?_)
 obtain ⟨x37,v38,h⟩:=h
 refine Zu u34 (Yo v38) (GL.call h (Yt u34) rfl Qa4 (vs:=[slv x35,slv x37,.func (.func 78) (List.toArray []) (List.toArray [])]) rfl ?_)
 rintro _ H40 ⟨r39,rfl,h⟩
 refine Zt u34 ?_
 exact Yj I3 r39 h
 refine Zk u34 (Zk u34 (Zk u34 (Zk u34 (Zk u34 (Zn u34 ?_)))))
 exact Yj I3 false h
 intro b31 H41 h
 replace h:=hR33 b31 H41 h
 refine Zm ?_
 obtain ⟨J43,h,hR44⟩:=h
 refine GL.cut (α:=Bool) 6 J43 (fun b42=>[(37,.bool b42),(2,pv (some (b1,0))),(3,pv (some (b3,0)))]) ?_ ?_
 rcases h.em with ⟨u45,h⟩ | ⟨u45,h⟩
 refine Zu u45 Yf ?_
 obtain ⟨x46,v47,h⟩:=h
 refine Zu u45 (Yo v47) (Zu u45 Yf ?_)
 obtain ⟨x48,v49,h⟩:=h
 refine Zu u45 (Yo v49) (GL.call h (Yt u45) rfl QbP (vs:=[slv x46,slv x48,.func (.func 80) (List.toArray []) (List.toArray [])]) rfl ?_)
 rintro _ H51 ⟨r50,rfl,h⟩
 refine Zt u45 ?_
 exact Yj I3 r50 h
 refine Zk u45 (Zk u45 (Zk u45 (Zk u45 (Zk u45 (Zn u45 ?_)))))
 exact Yj I3 false h
 intro b42 H52 h
 replace h:=hR44 b42 H52 h
 refine Zm ?_
 obtain ⟨J54,h,hR55⟩:=h
 refine GL.cut (α:=Bool) 6 J54 (fun b53=>[(44,.bool b53)]) ?_ ?_
 rcases h.em with ⟨u56,h⟩ | ⟨u56,h⟩
 refine Zu u56 Yf ?_
 obtain ⟨x57,v58,h⟩:=h
 refine Zu u56 (Yo v58) (Zu u56 Yf ?_)
 obtain ⟨x59,v60,h⟩:=h
 refine Zu u56 (Yo v60) (GL.call h (Yt u56) rfl Qbq (vs:=[slv x57,slv x59,.func (.func 86) (List.toArray []) (List.toArray [])]) rfl ?_)
 rintro _ H62 ⟨r61,rfl,h⟩
 refine Zt u56 ?_
 exact Yj I3 r61 h
 refine Zk u56 (Zk u56 (Zk u56 (Zk u56 (Zk u56 (Zn u56 ?_)))))
 exact Yj I3 false h
 intro b53 H63 h
 replace h:=hR55 b53 H63 h
 refine Za (GL.nil ?_)
 exact Y1 I3 ⟨b53,rfl,h⟩
def Qlb (C:Ctx) (p_l:Sl) (p_most:Int) (K:Int→Heap→Prop) (H:Heap):Prop:=
 lp (α:=Int×Int) (0,0) H (fun x1 J2 H3=>
 ift ((decide ((x1.2:Int) < (Sl.len p_l:Int))) && (decide ((x1.1:Int) < p_most)))
 (ixa p_l x1.2 fun p6=>
 ldS H3 ((p6.1,p6.2+(x1.2:Int).toNat*9).1,(p6.1,p6.2+(x1.2:Int).toNat*9).2+3) fun x11=>
 ixa p_l x1.2 fun p13=>
 ldS H3 (((p13.1,p13.2+(x1.2:Int).toNat*9).1,(p13.1,p13.2+(x1.2:Int).toNat*9).2+4).1,((p13.1,p13.2+(x1.2:Int).toNat*9).1,(p13.1,p13.2+(x1.2:Int).toNat*9).2+4).2+2) fun x18=>
 ixa p_l x1.2 fun p20=>
 ldL H3 (((p20.1,p20.2+(x1.2:Int).toNat*9).1,(p20.1,p20.2+(x1.2:Int).toNat*9).2+4).1,((p20.1,p20.2+(x1.2:Int).toNat*9).1,(p20.1,p20.2+(x1.2:Int).toNat*9).2+4).2+3) fun x25=>
 ixa p_l x1.2 fun p27=>
 ldL H3 ((p27.1,p27.2+(x1.2:Int).toNat*9).1,(p27.1,p27.2+(x1.2:Int).toNat*9).2+8) fun x32=>
 Qaz C x32 (w .i64 (p_most - (w .i64 ((w .i64 ((w .i64 ((w .i64 (x1.1+1))+(w .i64 (Int.tdiv (List.length x11:Int) 50))))+(w .i64 (Int.tdiv (List.length x18:Int) 50))))+(Sl.len x25:Int))))) (fun r34 H35=>
 J2 ((w .i64 ((w .i64 ((w .i64 ((w .i64 ((w .i64 (x1.1+1))+(w .i64 (Int.tdiv (List.length x11:Int) 50))))+(w .i64 (Int.tdiv (List.length x18:Int) 50))))+(Sl.len x25:Int)))+r34)),(w .i64 (x1.2+1))) H35) H3)
 (K x1.1 H3))
theorem QoV (C p_l p_most K H) (h:Qlb C p_l p_most K H):Qaz C p_l p_most K H:=by
 refine Ye Tryz.func19 rfl Tryz.ntmps19 [(0,slv p_l),(1,.int .i64 p_most)] (Zo (Za (GL.nil (Zo (Za (GL.nil (GC.seq (Zo (Za (GL.nil (GC.block (Yp h (fun x1=>[(5,.int .i64 x1.1),(6,.int .i64 x1.2),(0,slv p_l),(1,.int .i64 p_most)]) ?_))))))))))))
 intro x1 H3 J2 h
 refine GC.seq (Zo (Zm (Zm (Zq (Zi (.bool (decide ((x1.2:Int) < (Sl.len p_l:Int)))) (Zm (GL.cut0 4 [(15,.bool ((decide ((x1.2:Int) < (Sl.len p_l:Int))) && (decide ((x1.1:Int) < p_most)))),(0,slv p_l),(1,.int .i64 p_most),(5,.int .i64 x1.1),(6,.int .i64 x1.2)] ?_ ?_)))))))
 rcases Zb (decide ((x1.2:Int) < (Sl.len p_l:Int))) with u4 | u4
 refine Zu u4 Ym (Zu u4 Ym (Zu u4 (OV.ibin (v:=.bool (decide ((x1.1:Int) < p_most))) rfl rfl rfl) (Zt u4 ?_)))
 exact GL.jump0 (fun _ _ h=>h) () rfl ⟨(by rw [u4]; rfl),rfl,rfl,rfl,rfl,trivial⟩
 refine Zk u4 (Zk u4 (Zk u4 (Zn u4 ?_)))
 exact GL.jump0 (fun _ _ h=>h) () rfl ⟨(by rw [u4]; rfl),rfl,rfl,rfl,rfl,trivial⟩
 refine GL.nil (Yd h (fun u5 h=>?_) fun u5 h=>?_)
 refine GC.skip (GC.seq (GC.block (GC.seq (GC.draw (by kernel_rfl) (by kernel_rfl) (GQ.val trivial rfl (OV.move (v:=.int .i64 x1.1) rfl) (GQ.val trivial rfl (OV.ibin (v:=.int .i64 (w .i64 (x1.1+1))) rfl rfl rfl) (GQ.val trivial rfl (OV.move (v:=slv p_l) rfl) (GQ.val trivial rfl (OV.move (v:=.int .i64 x1.2) rfl) ?_))))))))
 obtain ⟨p6,ha7,hb8,u9,hd10,h⟩:=h
 refine GQ.val trivial rfl (OV.indexAddr (s:=p_l) rfl rfl rfl rfl ha7 hb8 u9 hd10) (GQ.val trivial rfl (OV.fieldAddr (p:=(p6.1,p6.2+(x1.2:Int).toNat*9)) rfl rfl) ?_)
 obtain ⟨x11,v12,h⟩:=h
 refine GQ.val trivial rfl (OV.load (p:=((p6.1,p6.2+(x1.2:Int).toNat*9).1,(p6.1,p6.2+(x1.2:Int).toNat*9).2+3)) rfl rfl v12) (GQ.val trivial rfl (OV.lenStr (s:=x11) rfl rfl) (GQ.val trivial rfl (OV.quo rfl rfl (by decide)) (GQ.val trivial rfl (OV.ibin (v:=.int .i64 (w .i64 ((w .i64 (x1.1+1))+(w .i64 (Int.tdiv (List.length x11:Int) 50))))) rfl rfl rfl) (GQ.val trivial rfl (OV.move (v:=slv p_l) rfl) (GQ.val trivial rfl (OV.move (v:=.int .i64 x1.2) rfl) ?_)))))
 obtain ⟨p13,ha14,hb15,u16,hd17,h⟩:=h
 refine GQ.val trivial rfl (OV.indexAddr (s:=p_l) rfl rfl rfl rfl ha14 hb15 u16 hd17) (GQ.val trivial rfl (OV.fieldAddr (p:=(p13.1,p13.2+(x1.2:Int).toNat*9)) rfl rfl) (GQ.val trivial rfl (OV.fieldAddr (p:=((p13.1,p13.2+(x1.2:Int).toNat*9).1,(p13.1,p13.2+(x1.2:Int).toNat*9).2+4)) rfl rfl) ?_))
 obtain ⟨x18,v19,h⟩:=h
 refine GQ.val trivial rfl (OV.load (p:=(((p13.1,p13.2+(x1.2:Int).toNat*9).1,(p13.1,p13.2+(x1.2:Int).toNat*9).2+4).1,((p13.1,p13.2+(x1.2:Int).toNat*9).1,(p13.1,p13.2+(x1.2:Int).toNat*9).2+4).2+2)) rfl rfl v19) (GQ.val trivial rfl (OV.lenStr (s:=x18) rfl rfl) (GQ.val trivial rfl (OV.quo rfl rfl (by decide)) (GQ.val trivial rfl (OV.ibin (v:=.int .i64 (w .i64 ((w .i64 ((w .i64 (x1.1+1))+(w .i64 (Int.tdiv (List.length x11:Int) 50))))+(w .i64 (Int.tdiv (List.length x18:Int) 50))))) rfl rfl rfl) (GQ.val trivial rfl (OV.move (v:=slv p_l) rfl) (GQ.val trivial rfl (OV.move (v:=.int .i64 x1.2) rfl) ?_)))))
 obtain ⟨p20,ha21,hb22,u23,hd24,h⟩:=h
 refine GQ.val trivial rfl (OV.indexAddr (s:=p_l) rfl rfl rfl rfl ha21 hb22 u23 hd24) (GQ.val trivial rfl (OV.fieldAddr (p:=(p20.1,p20.2+(x1.2:Int).toNat*9)) rfl rfl) (GQ.val trivial rfl (OV.fieldAddr (p:=((p20.1,p20.2+(x1.2:Int).toNat*9).1,(p20.1,p20.2+(x1.2:Int).toNat*9).2+4)) rfl rfl) ?_))
 obtain ⟨x25,v26,h⟩:=h
 refine GQ.val trivial rfl (OV.load (p:=(((p20.1,p20.2+(x1.2:Int).toNat*9).1,(p20.1,p20.2+(x1.2:Int).toNat*9).2+4).1,((p20.1,p20.2+(x1.2:Int).toNat*9).1,(p20.1,p20.2+(x1.2:Int).toNat*9).2+4).2+3)) rfl rfl v26) (GQ.val trivial rfl (OV.lenSl (s:=x25) rfl rfl) (GQ.val trivial rfl (OV.ibin (v:=.int .i64 (w .i64 ((w .i64 ((w .i64 ((w .i64 (x1.1+1))+(w .i64 (Int.tdiv (List.length x11:Int) 50))))+(w .i64 (Int.tdiv (List.length x18:Int) 50))))+(Sl.len x25:Int)))) rfl rfl rfl) (GQ.val trivial rfl (OV.assign (v:=.int .i64 (w .i64 ((w .i64 ((w .i64 ((w .i64 (x1.1+1))+(w .i64 (Int.tdiv (List.length x11:Int) 50))))+(w .i64 (Int.tdiv (List.length x18:Int) 50))))+(Sl.len x25:Int)))) rfl) (GQ.nil (GL.nil (GC.region (Zm (Zm (Zm (Yx h fun p27 h=>?_))))))))))
 refine Zf (Yl h fun x32 h=>?_)
 refine Zm (Zm (Zi (.int .i64 (w .i64 (p_most - (w .i64 ((w .i64 ((w .i64 ((w .i64 (x1.1+1))+(w .i64 (Int.tdiv (List.length x11:Int) 50))))+(w .i64 (Int.tdiv (List.length x18:Int) 50))))+(Sl.len x25:Int)))))) (Zc h QhJ ?_)))
 rintro _ H35 ⟨r34,rfl,h⟩
 refine Zi (.int .i64 (w .i64 ((w .i64 ((w .i64 ((w .i64 ((w .i64 (x1.1+1))+(w .i64 (Int.tdiv (List.length x11:Int) 50))))+(w .i64 (Int.tdiv (List.length x18:Int) 50))))+(Sl.len x25:Int)))+r34))) (Za (GL.nil_to (fun _ _ h=>h) (GC.region (Zm (Zi (.int .i64 (w .i64 (x1.2+1))) (Za ?_))))))
 exact Yj I3 ((w .i64 ((w .i64 ((w .i64 ((w .i64 ((w .i64 (x1.1+1))+(w .i64 (Int.tdiv (List.length x11:Int) 50))))+(w .i64 (Int.tdiv (List.length x18:Int) 50))))+(Sl.len x25:Int)))+r34)),(w .i64 (x1.2+1))) h
 refine GC.exit_to (fun _ _ h=>h) (Zo (Zm (Za (GL.nil ?_))))
 exact Y1 I3 ⟨x1.1,rfl,h⟩
def Qkh (C:Ctx) (p_l:Sl) (p_most:Int) (K:Int→Heap→Prop) (H:Heap):Prop:=
 lp (α:=Int×Int) (0,0) H (fun x1 J2 H3=>
 ift ((decide ((x1.2:Int) < (Sl.len p_l:Int))) && (decide ((x1.1:Int) < p_most)))
 (dr H3 fun Hs6=>
 ixa p_l x1.2 fun p8=>
 ldS Hs6 ((p8.1,p8.2+(x1.2:Int).toNat*3).1,(p8.1,p8.2+(x1.2:Int).toNat*3).2+0) fun x13=>
 ixa p_l x1.2 fun p15=>
 ldT Hs6 Qe.c ((p15.1,p15.2+(x1.2:Int).toNat*3).1,(p15.1,p15.2+(x1.2:Int).toNat*3).2+1) fun x20=>
 nw ((Qe.c x20)++[]) (fun b23 H24=>
 Heap.le Hs6 H24∧
 QaW C (Sl.of (some (b23,0)) 1 1) (w .i64 (p_most - x1.1)) (fun r26 H27=>
 Heap.le Hs6 H27∧
 J2 ((w .i64 ((w .i64 (x1.1+(w .i64 (Int.tdiv (List.length x13:Int) 50))))+r26)),(w .i64 (x1.2+1))) H27) H24) H3)
 (K x1.1 H3))
theorem Qn0 (C p_l p_most K H) (h:Qkh C p_l p_most K H):QbX C p_l p_most K H:=by
 refine Ye Tryz.func21 rfl Tryz.ntmps21 [(0,slv p_l),(1,.int .i64 p_most)] (Zo (Za (GL.nil (Zo (Za (GL.nil (GC.seq (Zo (Za (GL.nil (GC.block (Yp h (fun x1=>[(5,.int .i64 x1.1),(6,.int .i64 x1.2),(0,slv p_l),(1,.int .i64 p_most)]) ?_))))))))))))
 intro x1 H3 J2 h
 refine GC.seq (Zo (Zm (Zm (Zq (Zi (.bool (decide ((x1.2:Int) < (Sl.len p_l:Int)))) (Zm (GL.cut0 4 [(15,.bool ((decide ((x1.2:Int) < (Sl.len p_l:Int))) && (decide ((x1.1:Int) < p_most)))),(0,slv p_l),(1,.int .i64 p_most),(5,.int .i64 x1.1),(6,.int .i64 x1.2)] ?_ ?_)))))))
 rcases Zb (decide ((x1.2:Int) < (Sl.len p_l:Int))) with u4 | u4
 refine Zu u4 Ym (Zu u4 Ym (Zu u4 (OV.ibin (v:=.bool (decide ((x1.1:Int) < p_most))) rfl rfl rfl) (Zt u4 ?_)))
 exact GL.jump0 (fun _ _ h=>h) () rfl ⟨(by rw [u4]; rfl),rfl,rfl,rfl,rfl,trivial⟩
 refine Zk u4 (Zk u4 (Zk u4 (Zn u4 ?_)))
 exact GL.jump0 (fun _ _ h=>h) () rfl ⟨(by rw [u4]; rfl),rfl,rfl,rfl,rfl,trivial⟩
 refine GL.nil (Yd h (fun u5 h=>?_) fun u5 h=>?_)
 refine GC.skip (GC.seq (GC.block ?_))
 obtain ⟨Hs6,hle7,h⟩:=h
 refine GC.any (Hs:=Hs6) (by kernel_rfl) hle7 (Zp 0 rfl Ym (Zp 1 rfl Ym (Zp 2 rfl Ym ?_)))
 obtain ⟨p8,ha9,hb10,u11,hd12,h⟩:=h
 refine Zp 3 rfl (OV.indexAddr rfl rfl rfl rfl ha9 hb10 u11 hd12) (Zp 4 rfl Yf ?_)
 obtain ⟨x13,v14,h⟩:=h
 refine Zp 5 rfl (Yo v14) (Zp 6 rfl (OV.lenStr rfl rfl) (Zp 7 rfl (OV.quo rfl rfl (by decide)) (Zp 8 rfl (OV.ibin (v:=.int .i64 (w .i64 (x1.1+(w .i64 (Int.tdiv (List.length x13:Int) 50))))) rfl rfl rfl) (Zp 9 rfl Ym (Zp 10 rfl Ym ?_)))))
 obtain ⟨p15,ha16,hb17,u18,hd19,h⟩:=h
 refine Zp 11 rfl (OV.indexAddr rfl rfl rfl rfl ha16 hb17 u18 hd19) (Zp 12 rfl Yf ?_)
 obtain ⟨x20,v21,h⟩:=h
 refine Zp 13 rfl (OV.loadT rfl rfl rfl v21) (Zp 15 rfl Ym (Zp 16 rfl Ym (Zp 17 rfl (OV.ibin (v:=.int .i64 (w .i64 (p_most - x1.1))) rfl rfl rfl) (GA.eff 14 rfl (by kernel_rfl) (GL.buildSlice (cs:=(Qe.c x20)++[]) h trivial rfl (vs:=[(0,.agg (Qe.c x20).toArray)]) rfl ⟨75,fun _=>by kernel_rfl⟩ ?_)))))
 intro b23 H24 h
 obtain ⟨hle22,h⟩:=h
 refine GA.back hle22 (GA.eff 18 rfl (by kernel_rfl) (Zc h QkY ?_))
 rintro _ H27 ⟨r26,rfl,h⟩
 obtain ⟨hle25,h⟩:=h
 refine GA.back hle25 (Zp 19 rfl (OV.ibin (v:=.int .i64 (w .i64 ((w .i64 (x1.1+(w .i64 (Int.tdiv (List.length x13:Int) 50))))+r26))) rfl rfl rfl) (Zp 20 rfl Ya (GA.done (by kernel_rfl) (GL.nil_to (fun _ _ h=>h) (GC.region (Zm (Zi (.int .i64 (w .i64 (x1.2+1))) (Za ?_))))))))
 exact Yj I3 ((w .i64 ((w .i64 (x1.1+(w .i64 (Int.tdiv (List.length x13:Int) 50))))+r26)),(w .i64 (x1.2+1))) h
 refine GC.exit_to (fun _ _ h=>h) (Zo (Zm (Za (GL.nil ?_))))
 exact Y1 I3 ⟨x1.1,rfl,h⟩
def Qmw (C:Ctx) (p_l:Sl) (p_most:Int) (K:Int→Heap→Prop) (H:Heap):Prop:=
 lp (α:=Int×Int) (0,0) H (fun x1 J2 H3=>
 ift ((decide ((x1.2:Int) < (Sl.len p_l:Int))) && (decide ((x1.1:Int) < p_most)))
 (ixa p_l x1.2 fun p6=>
 ldS H3 ((p6.1,p6.2+(x1.2:Int).toNat*5).1,(p6.1,p6.2+(x1.2:Int).toNat*5).2+3) fun x11=>
 ixa p_l x1.2 fun p13=>
 ldL H3 ((p13.1,p13.2+(x1.2:Int).toNat*5).1,(p13.1,p13.2+(x1.2:Int).toNat*5).2+4) fun x18=>
 Qaz C x18 (w .i64 (p_most - (w .i64 ((w .i64 (x1.1+1))+(w .i64 (Int.tdiv (List.length x11:Int) 50)))))) (fun r20 H21=>
 J2 ((w .i64 ((w .i64 ((w .i64 (x1.1+1))+(w .i64 (Int.tdiv (List.length x11:Int) 50))))+r20)),(w .i64 (x1.2+1))) H21) H3)
 (K x1.1 H3))
theorem Qp2 (C p_l p_most K H) (h:Qmw C p_l p_most K H):QcV C p_l p_most K H:=by
 refine Ye Tryz.func22 rfl Tryz.ntmps22 [(0,slv p_l),(1,.int .i64 p_most)] (Zo (Za (GL.nil (Zo (Za (GL.nil (GC.seq (Zo (Za (GL.nil (GC.block (Yp h (fun x1=>[(5,.int .i64 x1.1),(6,.int .i64 x1.2),(0,slv p_l),(1,.int .i64 p_most)]) ?_))))))))))))
 intro x1 H3 J2 h
 refine GC.seq (Zo (Zm (Zm (Zq (Zi (.bool (decide ((x1.2:Int) < (Sl.len p_l:Int)))) (Zm (GL.cut0 4 [(15,.bool ((decide ((x1.2:Int) < (Sl.len p_l:Int))) && (decide ((x1.1:Int) < p_most)))),(0,slv p_l),(1,.int .i64 p_most),(5,.int .i64 x1.1),(6,.int .i64 x1.2)] ?_ ?_)))))))
 rcases Zb (decide ((x1.2:Int) < (Sl.len p_l:Int))) with u4 | u4
 refine Zu u4 Ym (Zu u4 Ym (Zu u4 (OV.ibin (v:=.bool (decide ((x1.1:Int) < p_most))) rfl rfl rfl) (Zt u4 ?_)))
 exact GL.jump0 (fun _ _ h=>h) () rfl ⟨(by rw [u4]; rfl),rfl,rfl,rfl,rfl,trivial⟩
 refine Zk u4 (Zk u4 (Zk u4 (Zn u4 ?_)))
 exact GL.jump0 (fun _ _ h=>h) () rfl ⟨(by rw [u4]; rfl),rfl,rfl,rfl,rfl,trivial⟩
 refine GL.nil (Yd h (fun u5 h=>?_) fun u5 h=>?_)
 refine GC.skip (GC.seq (GC.block (Zo (Zm (Zi (.int .i64 (w .i64 (x1.1+1))) (Zm (Zm (Yx h fun p6 h=>?_))))))))
 refine Zf (Yl h fun x11 h=>?_)
 refine Zr (Zv (OV.quo rfl rfl (by decide)) (Zi (.int .i64 (w .i64 ((w .i64 (x1.1+1))+(w .i64 (Int.tdiv (List.length x11:Int) 50))))) (Za (GL.nil (GC.region (Zm (Zm (Zm (Yx h fun p13 h=>?_)))))))))
 refine Zf (Yl h fun x18 h=>?_)
 refine Zm (Zm (Zi (.int .i64 (w .i64 (p_most - (w .i64 ((w .i64 (x1.1+1))+(w .i64 (Int.tdiv (List.length x11:Int) 50))))))) (Zc h QhJ ?_)))
 rintro _ H21 ⟨r20,rfl,h⟩
 refine Zi (.int .i64 (w .i64 ((w .i64 ((w .i64 (x1.1+1))+(w .i64 (Int.tdiv (List.length x11:Int) 50))))+r20))) (Za (GL.nil_to (fun _ _ h=>h) (GC.region (Zm (Zi (.int .i64 (w .i64 (x1.2+1))) (Za ?_))))))
 exact Yj I3 ((w .i64 ((w .i64 ((w .i64 (x1.1+1))+(w .i64 (Int.tdiv (List.length x11:Int) 50))))+r20)),(w .i64 (x1.2+1))) h
 refine GC.exit_to (fun _ _ h=>h) (Zo (Zm (Za (GL.nil ?_))))
 exact Y1 I3 ⟨x1.1,rfl,h⟩
def Qji (C:Ctx) (p_s:Str) (K:Qa→Heap→Prop) (H:Heap):Prop:=
 nw (Qa.c Qa.zero) (fun b1 H2=>
 stT (b1,0) (Qa.c (⟨2,(⟨9,0⟩:Qp),p_s,Qb.zero,Sl.nil⟩:Qa)) (fun H3=>
 ldT H3 Qa.c (b1,0) fun x4=>
 K x4 H3) H2) H
theorem QnE (C p_s K H) (h:Qji C p_s K H):Qal C p_s K H:=by
 refine Ye Tryz.func23 rfl Tryz.ntmps23 [(0,sv p_s)] (Zo (GL.alloc (cs:=Qa.c Qa.zero) h trivial rfl rfl rfl ?_))
 intro b1 H2 h
 refine GL.nil (Zo (Zm (Zv (OV.build (vs:=[(0,.int .i64 9)]) (v:=.agg (Qp.c (⟨9,0⟩:Qp)).toArray) rfl (fun _=>by kernel_rfl)) (Zv (OV.build (vs:=[(0,.int .u8 2),(2,sv p_s),(1,.agg (Qp.c (⟨9,0⟩:Qp)).toArray)]) (v:=.agg (Qa.c (⟨2,(⟨9,0⟩:Qp),p_s,Qb.zero,Sl.nil⟩:Qa)).toArray) rfl (fun _=>by kernel_rfl)) (GL.storeT (p:=(b1,0)) (vs:=Qa.c (⟨2,(⟨9,0⟩:Qp),p_s,Qb.zero,Sl.nil⟩:Qa)) h trivial rfl rfl rfl rfl ?_)))))
 intro H3 h
 refine GL.nil ?_
 obtain ⟨x4,v5,h⟩:=h
 exact GC.ret (fun _ _ hf hs=>QtI rfl (RV.cellT (p:=(b1,0)) (cs:=Qa.c x4) rfl rfl rfl v5) hf hs ⟨x4,rfl,h⟩)
def Qnt (C:Ctx) (p_e:Qa) (K:Sl→Heap→Prop) (H:Heap):Prop:=
 nw (Qa.c p_e) (fun b1 H2=>
 nw ([slv Sl.nil]) (fun b3 H4=>
 nw ([.nilFunc]) (fun b5 H6=>
 st (b5,0) (.func (.func 97) (List.toArray []) (List.toArray [pv (some (b3,0)),pv (some (b5,0))])) (fun H7=>
 ldV H7 (b5,0) fun x8=>
 ldT H7 Qa.c (b1,0) fun x10=>
 callU Tryz.prog C x8 [.agg (Qa.c x10).toArray] H7 (fun v H12=>v=.tuple #[]∧
 ldL H12 (b3,0) fun x13=>
 K x13 H12)) H6) H4) H2) H
theorem QqN (C p_e K H) (h:Qnt C p_e K H):QlO C p_e K H:=by
 refine Ye Tryz.func24 rfl Tryz.ntmps24 [(0,.agg (Qa.c p_e).toArray)] (Zo (GL.box (v:=.agg (Qa.c p_e).toArray) (cs:=Qa.c p_e) h trivial rfl rfl rfl ?_))
 intro b1 H2 h
 refine Za (GL.nil (Zo (GL.alloc (cs:=[slv Sl.nil]) h trivial rfl rfl rfl ?_)))
 intro b3 H4 h
 refine GL.nil (Zo (GL.alloc (cs:=[.nilFunc]) h trivial rfl rfl rfl ?_))
 intro b5 H6 h
 refine GL.nil (Zo (Zv (OV.makeFunc (vs:=[]) (us:=[pv (some (b3,0)),pv (some (b5,0))]) rfl rfl) (GL.store (p:=(b5,0)) (v:=.func (.func 97) (List.toArray []) (List.toArray [pv (some (b3,0)),pv (some (b5,0))])) h trivial rfl rfl rfl rfl ?_)))
 intro H7 h
 refine GL.nil (Zo (Yl h fun x8 h=>?_))
 obtain ⟨x10,v11,h⟩:=h
 refine Zv (OV.loadT rfl rfl rfl v11) (GL.callU (xv:=x8) (vs:=[.agg (Qa.c x10).toArray]) h trivial rfl rfl rfl ?_)
 rintro _ H12 ⟨rfl,h⟩
 refine GL.nil (Zo (Yl h fun x13 h=>?_))
 refine Za (GL.nil ?_)
 exact Y1 I3 ⟨x13,rfl,h⟩
def Qgs (C:Ctx) (p_w:Option (Nat×Nat)) (p_l:Sl) (K:Heap→Prop) (H:Heap):Prop:=
 lp (α:=Int) 0 H (fun x1 J2 H3=>
 ift (decide ((x1:Int) < (Sl.len p_l:Int)))
 (ixa p_l x1 fun p5=>
 ldS H3 (p5.1,p5.2+(x1:Int).toNat*1) fun x10=>
 nck p_w fun p12=>
 Qj C (some (p12.1,p12.2+0)) x10 (fun r14 r15 H16=>
 J2 (w .i64 (x1+1)) H16) H3)
 (K H3))
theorem QkJ (C p_w p_l K H) (h:Qgs C p_w p_l K H):QH C p_w p_l K H:=by
 refine Ye Tryz.func25 rfl Tryz.ntmps25 [(0,pv p_w),(1,slv p_l)] (Zo (Zm (Zq (Zm (GL.nil (GC.block (Yp h (fun x1=>[(8,.int .i64 x1),(0,pv p_w),(6,slv p_l),(7,.int .i64 (Sl.len p_l:Int))]) ?_)))))))
 intro x1 H3 J2 h
 refine Zo (Zi (.bool (decide ((x1:Int) < (Sl.len p_l:Int)))) (GL.nil (GC.seq (Yd h (fun u4 h=>?_) fun u4 h=>?_))))
 refine GC.skip (GC.seq (GC.block (Zo (Yx h fun p5 h=>?_))))
 refine Yl h fun x10 h=>?_
 refine Za (GL.nil (GC.region (Zm ?_)))
 obtain ⟨p12,hp13,h⟩:=h
 refine Zv (OV.nilCheck (q:=p_w) rfl hp13) (Zf (Zm (Zc h Qm ?_)))
 rintro _ H16 ⟨r14,r15,rfl,h⟩
 refine GL.nil_to (fun _ _ h=>h) (GC.region (Zi (.int .i64 (w .i64 (x1+1))) (Zm ?_)))
 exact Yj I3 (w .i64 (x1+1)) h
 exact GC.exit_ends (fun _ _ hf hs=>QC rfl hf hs ⟨rfl,h⟩)
def QfC (C:Ctx) (p_w:Option (Nat×Nat)) (p_l:Sl) (p_between:Str) (p_write:Value) (K:Heap→Prop) (H:Heap):Prop:=
 lp (α:=Int) 0 H (fun x1 J2 H3=>
 ift (decide ((x1:Int) < (Sl.len p_l:Int)))
 (ixa p_l x1 fun p5=>
 ldT H3 Qn.c (p5.1,p5.2+(x1:Int).toNat*3) fun x10=>
 nw (Qn.c Qn.zero) (fun b12 H13=>
 stT (b12,0) (Qn.c x10) (fun H14=>
 jn (α:=Unit) (fun x16 H17=>
 ldT H17 Qn.c (b12,0) fun x25=>
 callU Tryz.prog C p_write [.agg (Qn.c x25).toArray] H17 (fun v H27=>v=.tuple #[]∧
 J2 (w .i64 (x1+1)) H27))
 (fun J15=>ift (decide ((x1:Int) > 0))
 (nck p_w fun p20=>
 Qj C (some (p20.1,p20.2+0)) p_between (fun r22 r23 H24=>
 J15 () H24) H14)
 (J15 () H14))) H13) H3)
 (K H3))
theorem QiP (C p_w p_l p_between p_write K H) (h:QfC C p_w p_l p_between p_write K H):QdG C p_w p_l p_between p_write K H:=by
 refine Ye Tryz.func26 rfl Tryz.ntmps26 [(0,pv p_w),(1,slv p_l),(2,sv p_between),(3,p_write)] (Zo (Zm (Zq (Zm (GL.nil (GC.block (Yp h (fun x1=>[(12,.int .i64 x1),(0,pv p_w),(2,sv p_between),(3,p_write),(10,slv p_l),(11,.int .i64 (Sl.len p_l:Int))]) ?_)))))))
 intro x1 H3 J2 h
 refine Zo (Zi (.bool (decide ((x1:Int) < (Sl.len p_l:Int)))) (GL.nil (GC.seq (Yd h (fun u4 h=>?_) fun u4 h=>?_))))
 refine GC.skip (GC.seq (GC.block (Zo (Zm (Yx h fun p5 h=>?_)))))
 obtain ⟨x10,v11,h⟩:=h
 refine Zv (OV.loadT rfl rfl rfl v11) (GL.alloc (cs:=Qn.c Qn.zero) h trivial rfl rfl rfl ?_)
 intro b12 H13 h
 refine Za (GL.storeT (p:=(b12,0)) (vs:=Qn.c x10) h trivial rfl rfl rfl rfl ?_)
 intro H14 h
 refine GL.nil ?_
 obtain ⟨J15,h,hR18⟩:=h
 refine GC.join (α:=Unit) J15 (fun _=>[(0,pv p_w),(2,sv p_between),(3,p_write),(9,pv (some (b12,0))),(10,slv p_l),(11,.int .i64 (Sl.len p_l:Int)),(12,.int .i64 x1)]) ?_ ?_
 refine Zo (Zm (Zi (.bool (decide ((x1:Int) > 0))) (GL.nil (Yd h (fun u19 h=>?_) fun u19 h=>?_))))
 refine GC.region (Zm ?_)
 obtain ⟨p20,hp21,h⟩:=h
 refine Zv (OV.nilCheck (q:=p_w) rfl hp21) (Zf (Zm (Zc h Qm ?_)))
 rintro _ H24 ⟨r22,r23,rfl,h⟩
 exact Yj I3 () h
 exact Yk I3 () h
 intro x16 H17 h
 replace h:=hR18 x16 H17 h
 refine GC.region (Zm ?_)
 obtain ⟨x25,v26,h⟩:=h
 refine Zv (OV.loadT rfl rfl rfl v26) (GL.callU (xv:=p_write) (vs:=[.agg (Qn.c x25).toArray]) h trivial rfl rfl rfl ?_)
 rintro _ H27 ⟨rfl,h⟩
 refine GL.nil_to (fun _ _ h=>h) (GC.region (Zi (.int .i64 (w .i64 (x1+1))) (Zm ?_)))
 exact Yj I3 (w .i64 (x1+1)) h
 exact GC.exit_ends (fun _ _ hf hs=>QC rfl hf hs ⟨rfl,h⟩)
def Qks (C:Ctx) (p_x:Qn) (v0:Nat×Nat) (K:Heap→Prop) (H:Heap):Prop:=
 nw (Qn.c p_x) (fun b1 H2=>
 ldP H2 v0 fun x3=>
 ldS H2 ((b1,0).1,(b1,0).2+2) fun x5=>
 nw ([sv [105,109,112,111,114,116,32],sv x5,sv [10]]) (fun b7 H8=>
 QH C x3 (Sl.of (some (b7,0)) 3 3) (fun H9=>
 K H9) H8) H2) H
theorem Qob (C p_x v0 K H) (h:Qks C p_x v0 K H):QkT C p_x v0 K H:=by
 refine Ye Tryz.func27 rfl Tryz.ntmps27 [(0,.agg (Qn.c p_x).toArray),(1,pv (some v0))] (Zo (GL.box (v:=.agg (Qn.c p_x).toArray) (cs:=Qn.c p_x) h trivial rfl rfl rfl ?_))
 intro b1 H2 h
 refine GL.nil (GC.region (Yl h fun x3 h=>?_))
 refine Zf (Yl h fun x5 h=>?_)
 refine GL.buildSlice (cs:=[sv [105,109,112,111,114,116,32],sv x5,sv [10]]) h trivial rfl (vs:=[(0,sv [105,109,112,111,114,116,32]),(1,sv x5),(2,sv [10])]) rfl ⟨9,fun _=>by kernel_rfl⟩ ?_
 intro b7 H8 h
 refine Zc h QV ?_
 rintro _ H9 ⟨rfl,h⟩
 exact GL.ends (fun _ _ hf hs=>QC rfl hf hs ⟨rfl,h⟩)
def Qfc (C:Ctx) (p_w:Option (Nat×Nat)) (p_l:Sl) (p_between:Str) (p_write:Value) (K:Heap→Prop) (H:Heap):Prop:=
 lp (α:=Int) 0 H (fun x1 J2 H3=>
 ift (decide ((x1:Int) < (Sl.len p_l:Int)))
 (ixa p_l x1 fun p5=>
 ldT H3 Qf.c (p5.1,p5.2+(x1:Int).toNat*6) fun x10=>
 nw (Qf.c Qf.zero) (fun b12 H13=>
 stT (b12,0) (Qf.c x10) (fun H14=>
 jn (α:=Unit) (fun x16 H17=>
 ldT H17 Qf.c (b12,0) fun x25=>
 callU Tryz.prog C p_write [.agg (Qf.c x25).toArray] H17 (fun v H27=>v=.tuple #[]∧
 J2 (w .i64 (x1+1)) H27))
 (fun J15=>ift (decide ((x1:Int) > 0))
 (nck p_w fun p20=>
 Qj C (some (p20.1,p20.2+0)) p_between (fun r22 r23 H24=>
 J15 () H24) H14)
 (J15 () H14))) H13) H3)
 (K H3))
theorem Qh6 (C p_w p_l p_between p_write K H) (h:Qfc C p_w p_l p_between p_write K H):Qdf C p_w p_l p_between p_write K H:=by
 refine Ye Tryz.func28 rfl Tryz.ntmps28 [(0,pv p_w),(1,slv p_l),(2,sv p_between),(3,p_write)] (Zo (Zm (Zq (Zm (GL.nil (GC.block (Yp h (fun x1=>[(12,.int .i64 x1),(0,pv p_w),(2,sv p_between),(3,p_write),(10,slv p_l),(11,.int .i64 (Sl.len p_l:Int))]) ?_)))))))
 intro x1 H3 J2 h
 refine Zo (Zi (.bool (decide ((x1:Int) < (Sl.len p_l:Int)))) (GL.nil (GC.seq (Yd h (fun u4 h=>?_) fun u4 h=>?_))))
 refine GC.skip (GC.seq (GC.block (Zo (Zm (Yx h fun p5 h=>?_)))))
 obtain ⟨x10,v11,h⟩:=h
 refine Zv (OV.loadT rfl rfl rfl v11) (GL.alloc (cs:=Qf.c Qf.zero) h trivial rfl rfl rfl ?_)
 intro b12 H13 h
 refine Za (GL.storeT (p:=(b12,0)) (vs:=Qf.c x10) h trivial rfl rfl rfl rfl ?_)
 intro H14 h
 refine GL.nil ?_
 obtain ⟨J15,h,hR18⟩:=h
 refine GC.join (α:=Unit) J15 (fun _=>[(0,pv p_w),(2,sv p_between),(3,p_write),(9,pv (some (b12,0))),(10,slv p_l),(11,.int .i64 (Sl.len p_l:Int)),(12,.int .i64 x1)]) ?_ ?_
 refine Zo (Zm (Zi (.bool (decide ((x1:Int) > 0))) (GL.nil (Yd h (fun u19 h=>?_) fun u19 h=>?_))))
 refine GC.region (Zm ?_)
 obtain ⟨p20,hp21,h⟩:=h
 refine Zv (OV.nilCheck (q:=p_w) rfl hp21) (Zf (Zm (Zc h Qm ?_)))
 rintro _ H24 ⟨r22,r23,rfl,h⟩
 exact Yj I3 () h
 exact Yk I3 () h
 intro x16 H17 h
 replace h:=hR18 x16 H17 h
 refine GC.region (Zm ?_)
 obtain ⟨x25,v26,h⟩:=h
 refine Zv (OV.loadT rfl rfl rfl v26) (GL.callU (xv:=p_write) (vs:=[.agg (Qf.c x25).toArray]) h trivial rfl rfl rfl ?_)
 rintro _ H27 ⟨rfl,h⟩
 refine GL.nil_to (fun _ _ h=>h) (GC.region (Zi (.int .i64 (w .i64 (x1+1))) (Zm ?_)))
 exact Yj I3 (w .i64 (x1+1)) h
 exact GC.exit_ends (fun _ _ hf hs=>QC rfl hf hs ⟨rfl,h⟩)
def QfM (C:Ctx) (p_w:Option (Nat×Nat)) (p_t:Qf) (K:Heap→Prop) (H:Heap):Prop:=
 nw ([pv p_w]) (fun b1 H2=>
 nw (Qf.c p_t) (fun b3 H4=>
 ldP H4 (b1,0) fun x5=>
 ldB H4 ((b3,0).1,(b3,0).2+2) fun x7=>
 Qeq C x5 x7 (fun H9=>
 ldP H9 (b1,0) fun x10=>
 ldS H9 ((b3,0).1,(b3,0).2+3) fun x12=>
 nw ([sv [116,121,112,101,32],sv x12]) (fun b14 H15=>
 QH C x10 (Sl.of (some (b14,0)) 2 2) (fun H16=>
 jn (α:=Unit) (fun x18 H19=>
 ldP H19 (b1,0) fun x29=>
 nck x29 fun p31=>
 Qj C (some (p31.1,p31.2+0)) [32,61,32] (fun r33 r34 H35=>
 ldP H35 (b1,0) fun x36=>
 ldL H35 ((b3,0).1,(b3,0).2+5) fun x38=>
 Qde C x36 x38 [32,124,32] (.func (.func 103) (List.toArray []) (List.toArray [pv (some (b1,0))]):Value) (fun H40=>
 ldP H40 (b1,0) fun x41=>
 nck x41 fun p43=>
 Qo C (some (p43.1,p43.2+0)) 10 (fun r45 H46=>
 K H46) H40) H35) H19)
 (fun J17=>ldL H16 ((b3,0).1,(b3,0).2+4) fun x21=>
 ift (decide (((Sl.len x21:Int):Int) > 0))
 (ldP H16 (b1,0) fun x24=>
 ldL H16 ((b3,0).1,(b3,0).2+4) fun x26=>
 QdF C x24 x26 (.func (.func 101) (List.toArray []) (List.toArray [pv (some (b1,0))]):Value) (fun H28=>
 J17 () H28) H16)
 (J17 () H16))) H15) H9) H4) H2) H
theorem Qjy (C p_w p_t K H) (h:QfM C p_w p_t K H):QfY C p_w p_t K H:=by
 refine Ye Tryz.func29 rfl Tryz.ntmps29 [(0,pv p_w),(1,.agg (Qf.c p_t).toArray)] (Zo (GL.box (v:=pv p_w) (cs:=[pv p_w]) h trivial rfl rfl rfl ?_))
 intro b1 H2 h
 refine GL.box (v:=.agg (Qf.c p_t).toArray) (cs:=Qf.c p_t) h trivial rfl rfl rfl ?_
 intro b3 H4 h
 refine GL.nil (Zo (Yl h fun x5 h=>?_))
 refine Zf (Yl h fun x7 h=>?_)
 refine Zc h Qhj ?_
 rintro _ H9 ⟨rfl,h⟩
 refine GL.nil (Zo (Yl h fun x10 h=>?_))
 refine Zf (Yl h fun x12 h=>?_)
 refine GL.buildSlice (cs:=[sv [116,121,112,101,32],sv x12]) h trivial rfl (vs:=[(0,sv [116,121,112,101,32]),(1,sv x12)]) rfl ⟨9,fun _=>by kernel_rfl⟩ ?_
 intro b14 H15 h
 refine Zc h QV ?_
 rintro _ H16 ⟨rfl,h⟩
 refine GL.nil ?_
 obtain ⟨J17,h,hR20⟩:=h
 refine GC.join (α:=Unit) J17 (fun _=>[(2,pv (some (b1,0))),(3,pv (some (b3,0)))]) ?_ ?_
 refine Zo (Zf (Yl h fun x21 h=>?_))
 refine Zq (Zi (.bool (decide (((Sl.len x21:Int):Int) > 0))) (GL.nil (Yd h (fun u23 h=>?_) fun u23 h=>?_)))
 refine GC.region (Yl h fun x24 h=>?_)
 refine Zf (Yl h fun x26 h=>?_)
 refine Zv (OV.makeFunc (vs:=[]) (us:=[pv (some (b1,0))]) rfl rfl) (Zc h Qi7 ?_)
 rintro _ H28 ⟨rfl,h⟩
 exact Yj I3 () h
 exact Yk I3 () h
 intro x18 H19 h
 replace h:=hR20 x18 H19 h
 refine Zo (Yl h fun x29 h=>?_)
 obtain ⟨p31,hp32,h⟩:=h
 refine Zv (OV.nilCheck (q:=x29) rfl hp32) (Zf (Zc h Qm ?_))
 rintro _ H35 ⟨r33,r34,rfl,h⟩
 refine GL.nil (Zo (Yl h fun x36 h=>?_))
 refine Zf (Yl h fun x38 h=>?_)
 refine Zv (OV.makeFunc (vs:=[]) (us:=[pv (some (b1,0))]) rfl rfl) (Zc h Qio ?_)
 rintro _ H40 ⟨rfl,h⟩
 refine GL.nil (GC.region (Yl h fun x41 h=>?_))
 obtain ⟨p43,hp44,h⟩:=h
 refine Zv (OV.nilCheck (q:=x41) rfl hp44) (Zf (Zc h Qq ?_))
 rintro _ H46 ⟨r45,rfl,h⟩
 exact GL.ends (fun _ _ hf hs=>QC rfl hf hs ⟨rfl,h⟩)
def QfD (C:Ctx) (p_w:Option (Nat×Nat)) (p_l:Sl) (p_between:Str) (p_write:Value) (K:Heap→Prop) (H:Heap):Prop:=
 lp (α:=Int) 0 H (fun x1 J2 H3=>
 ift (decide ((x1:Int) < (Sl.len p_l:Int)))
 (ixa p_l x1 fun p5=>
 ldT H3 Qi.c (p5.1,p5.2+(x1:Int).toNat*6) fun x10=>
 nw (Qi.c Qi.zero) (fun b12 H13=>
 stT (b12,0) (Qi.c x10) (fun H14=>
 jn (α:=Unit) (fun x16 H17=>
 ldT H17 Qi.c (b12,0) fun x25=>
 callU Tryz.prog C p_write [.agg (Qi.c x25).toArray] H17 (fun v H27=>v=.tuple #[]∧
 J2 (w .i64 (x1+1)) H27))
 (fun J15=>ift (decide ((x1:Int) > 0))
 (nck p_w fun p20=>
 Qj C (some (p20.1,p20.2+0)) p_between (fun r22 r23 H24=>
 J15 () H24) H14)
 (J15 () H14))) H13) H3)
 (K H3))
theorem QiQ (C p_w p_l p_between p_write K H) (h:QfD C p_w p_l p_between p_write K H):QdH C p_w p_l p_between p_write K H:=by
 refine Ye Tryz.func30 rfl Tryz.ntmps30 [(0,pv p_w),(1,slv p_l),(2,sv p_between),(3,p_write)] (Zo (Zm (Zq (Zm (GL.nil (GC.block (Yp h (fun x1=>[(12,.int .i64 x1),(0,pv p_w),(2,sv p_between),(3,p_write),(10,slv p_l),(11,.int .i64 (Sl.len p_l:Int))]) ?_)))))))
 intro x1 H3 J2 h
 refine Zo (Zi (.bool (decide ((x1:Int) < (Sl.len p_l:Int)))) (GL.nil (GC.seq (Yd h (fun u4 h=>?_) fun u4 h=>?_))))
 refine GC.skip (GC.seq (GC.block (Zo (Zm (Yx h fun p5 h=>?_)))))
 obtain ⟨x10,v11,h⟩:=h
 refine Zv (OV.loadT rfl rfl rfl v11) (GL.alloc (cs:=Qi.c Qi.zero) h trivial rfl rfl rfl ?_)
 intro b12 H13 h
 refine Za (GL.storeT (p:=(b12,0)) (vs:=Qi.c x10) h trivial rfl rfl rfl rfl ?_)
 intro H14 h
 refine GL.nil ?_
 obtain ⟨J15,h,hR18⟩:=h
 refine GC.join (α:=Unit) J15 (fun _=>[(0,pv p_w),(2,sv p_between),(3,p_write),(9,pv (some (b12,0))),(10,slv p_l),(11,.int .i64 (Sl.len p_l:Int)),(12,.int .i64 x1)]) ?_ ?_
 refine Zo (Zm (Zi (.bool (decide ((x1:Int) > 0))) (GL.nil (Yd h (fun u19 h=>?_) fun u19 h=>?_))))
 refine GC.region (Zm ?_)
 obtain ⟨p20,hp21,h⟩:=h
 refine Zv (OV.nilCheck (q:=p_w) rfl hp21) (Zf (Zm (Zc h Qm ?_)))
 rintro _ H24 ⟨r22,r23,rfl,h⟩
 exact Yj I3 () h
 exact Yk I3 () h
 intro x16 H17 h
 replace h:=hR18 x16 H17 h
 refine GC.region (Zm ?_)
 obtain ⟨x25,v26,h⟩:=h
 refine Zv (OV.loadT rfl rfl rfl v26) (GL.callU (xv:=p_write) (vs:=[.agg (Qi.c x25).toArray]) h trivial rfl rfl rfl ?_)
 rintro _ H27 ⟨rfl,h⟩
 refine GL.nil_to (fun _ _ h=>h) (GC.region (Zi (.int .i64 (w .i64 (x1+1))) (Zm ?_)))
 exact Yj I3 (w .i64 (x1+1)) h
 exact GC.exit_ends (fun _ _ hf hs=>QC rfl hf hs ⟨rfl,h⟩)
def Qf7 (C:Ctx) (p_w:Option (Nat×Nat)) (p_x:Qi) (K:Heap→Prop) (H:Heap):Prop:=
 nw (Qi.c p_x) (fun b1 H2=>
 ldB H2 ((b1,0).1,(b1,0).2+2) fun x3=>
 Qeq C p_w x3 (fun H5=>
 jn (α:=Str) (fun x7 H8=>
 ldS H8 ((b1,0).1,(b1,0).2+4) fun x13=>
 nw ([sv x7,sv x13]) (fun b15 H16=>
 QH C p_w (Sl.of (some (b15,0)) 2 2) (fun H17=>
 ldL H17 ((b1,0).1,(b1,0).2+5) fun x18=>
 Qai C p_w x18 (.func (.func 105) (List.toArray [pv p_w]) (List.toArray []):Value) (fun H20=>
 nck p_w fun p21=>
 Qo C (some (p21.1,p21.2+0)) 10 (fun r23 H24=>
 K H24) H20) H17) H16) H8)
 (fun J6=>ldB H5 ((b1,0).1,(b1,0).2+3) fun x10=>
 ift x10
 (J6 [105,110,112,117,116,32] H5)
 (J6 [114,101,108,32] H5))) H2) H
theorem QjT (C p_w p_x K H) (h:Qf7 C p_w p_x K H):Qgi C p_w p_x K H:=by
 refine Ye Tryz.func31 rfl Tryz.ntmps31 [(0,pv p_w),(1,.agg (Qi.c p_x).toArray)] (Zo (GL.box (v:=.agg (Qi.c p_x).toArray) (cs:=Qi.c p_x) h trivial rfl rfl rfl ?_))
 intro b1 H2 h
 refine GL.nil (Zo (Zm (Zf (Yl h fun x3 h=>?_))))
 refine Zc h Qhj ?_
 rintro _ H5 ⟨rfl,h⟩
 refine GL.nil (Zo (Za (GL.nil ?_)))
 obtain ⟨J6,h,hR9⟩:=h
 refine GC.join (α:=Str) J6 (fun x7=>[(4,sv x7),(0,pv p_w),(3,pv (some (b1,0)))]) ?_ ?_
 refine Zo (Zf (Yl h fun x10 h=>?_))
 refine GL.nil (Yd h (fun u12 h=>?_) fun u12 h=>?_)
 refine GC.region (Za ?_)
 exact Yj I3 [105,110,112,117,116,32] h
 exact Yk I3 [114,101,108,32] h
 intro x7 H8 h
 replace h:=hR9 x7 H8 h
 refine Zo (Zm (Zm (Zf (Yl h fun x13 h=>?_))))
 refine GL.buildSlice (cs:=[sv x7,sv x13]) h trivial rfl (vs:=[(0,sv x7),(1,sv x13)]) rfl ⟨9,fun _=>by kernel_rfl⟩ ?_
 intro b15 H16 h
 refine Zc h QV ?_
 rintro _ H17 ⟨rfl,h⟩
 refine GL.nil (Zo (Zm (Zf (Yl h fun x18 h=>?_))))
 refine Zm (Zv (OV.makeFunc (vs:=[pv p_w]) (us:=[]) rfl rfl) (Zc h Qdp ?_))
 rintro _ H20 ⟨rfl,h⟩
 refine GL.nil (GC.region (Zm ?_))
 obtain ⟨p21,hp22,h⟩:=h
 refine Zv (OV.nilCheck (q:=p_w) rfl hp22) (Zf (Zc h Qq ?_))
 rintro _ H24 ⟨r23,rfl,h⟩
 exact GL.ends (fun _ _ hf hs=>QC rfl hf hs ⟨rfl,h⟩)
def Qf5 (C:Ctx) (p_w:Option (Nat×Nat)) (p_l:Sl) (p_between:Str) (p_write:Value) (K:Heap→Prop) (H:Heap):Prop:=
 lp (α:=Int) 0 H (fun x1 J2 H3=>
 ift (decide ((x1:Int) < (Sl.len p_l:Int)))
 (ixa p_l x1 fun p5=>
 ldT H3 Qk.c (p5.1,p5.2+(x1:Int).toNat*6) fun x10=>
 nw (Qk.c Qk.zero) (fun b12 H13=>
 stT (b12,0) (Qk.c x10) (fun H14=>
 jn (α:=Unit) (fun x16 H17=>
 ldT H17 Qk.c (b12,0) fun x25=>
 callU Tryz.prog C p_write [.agg (Qk.c x25).toArray] H17 (fun v H27=>v=.tuple #[]∧
 J2 (w .i64 (x1+1)) H27))
 (fun J15=>ift (decide ((x1:Int) > 0))
 (nck p_w fun p20=>
 Qj C (some (p20.1,p20.2+0)) p_between (fun r22 r23 H24=>
 J15 () H24) H14)
 (J15 () H14))) H13) H3)
 (K H3))
theorem QjR (C p_w p_l p_between p_write K H) (h:Qf5 C p_w p_l p_between p_write K H):QeC C p_w p_l p_between p_write K H:=by
 refine Ye Tryz.func32 rfl Tryz.ntmps32 [(0,pv p_w),(1,slv p_l),(2,sv p_between),(3,p_write)] (Zo (Zm (Zq (Zm (GL.nil (GC.block (Yp h (fun x1=>[(12,.int .i64 x1),(0,pv p_w),(2,sv p_between),(3,p_write),(10,slv p_l),(11,.int .i64 (Sl.len p_l:Int))]) ?_)))))))
 intro x1 H3 J2 h
 refine Zo (Zi (.bool (decide ((x1:Int) < (Sl.len p_l:Int)))) (GL.nil (GC.seq (Yd h (fun u4 h=>?_) fun u4 h=>?_))))
 refine GC.skip (GC.seq (GC.block (Zo (Zm (Yx h fun p5 h=>?_)))))
 obtain ⟨x10,v11,h⟩:=h
 refine Zv (OV.loadT rfl rfl rfl v11) (GL.alloc (cs:=Qk.c Qk.zero) h trivial rfl rfl rfl ?_)
 intro b12 H13 h
 refine Za (GL.storeT (p:=(b12,0)) (vs:=Qk.c x10) h trivial rfl rfl rfl rfl ?_)
 intro H14 h
 refine GL.nil ?_
 obtain ⟨J15,h,hR18⟩:=h
 refine GC.join (α:=Unit) J15 (fun _=>[(0,pv p_w),(2,sv p_between),(3,p_write),(9,pv (some (b12,0))),(10,slv p_l),(11,.int .i64 (Sl.len p_l:Int)),(12,.int .i64 x1)]) ?_ ?_
 refine Zo (Zm (Zi (.bool (decide ((x1:Int) > 0))) (GL.nil (Yd h (fun u19 h=>?_) fun u19 h=>?_))))
 refine GC.region (Zm ?_)
 obtain ⟨p20,hp21,h⟩:=h
 refine Zv (OV.nilCheck (q:=p_w) rfl hp21) (Zf (Zm (Zc h Qm ?_)))
 rintro _ H24 ⟨r22,r23,rfl,h⟩
 exact Yj I3 () h
 exact Yk I3 () h
 intro x16 H17 h
 replace h:=hR18 x16 H17 h
 refine GC.region (Zm ?_)
 obtain ⟨x25,v26,h⟩:=h
 refine Zv (OV.loadT rfl rfl rfl v26) (GL.callU (xv:=p_write) (vs:=[.agg (Qk.c x25).toArray]) h trivial rfl rfl rfl ?_)
 rintro _ H27 ⟨rfl,h⟩
 refine GL.nil_to (fun _ _ h=>h) (GC.region (Zi (.int .i64 (w .i64 (x1+1))) (Zm ?_)))
 exact Yj I3 (w .i64 (x1+1)) h
 exact GC.exit_ends (fun _ _ hf hs=>QC rfl hf hs ⟨rfl,h⟩)
def Qg2 (C:Ctx) (p_w:Option (Nat×Nat)) (p_r:Qk) (K:Heap→Prop) (H:Heap):Prop:=
 nw ([pv p_w]) (fun b1 H2=>
 nw (Qk.c p_r) (fun b3 H4=>
 dr H4 fun Hs5=>
 ldP Hs5 (b1,0) fun x7=>
 nck x7 fun p9=>
 ldS Hs5 ((b3,0).1,(b3,0).2+2) fun x11=>
 Qj C (some (p9.1,p9.2+0)) x11 (fun r14 r15 H16=>
 Heap.le Hs5 H16∧
 nw ([.int .i64 0]) (fun b17 H18=>
 st (b17,0) (.int .i64 0) (fun H19=>
 ldP H19 (b1,0) fun x20=>
 ldL H19 ((b3,0).1,(b3,0).2+3) fun x22=>
 QF C x20 x22 (.func (.func 108) (List.toArray []) (List.toArray [pv (some (b3,0)),pv (some (b17,0)),pv (some (b1,0))]):Value) (fun H24=>
 jn (α:=Unit) (fun x26 H27=>
 ldP H27 (b1,0) fun x46=>
 nck x46 fun p48=>
 Qj C (some (p48.1,p48.2+0)) [46,10] (fun r50 r51 H52=>
 K H52) H27)
 (fun J25=>ldL H24 ((b3,0).1,(b3,0).2+5) fun x29=>
 ift (decide (((Sl.len x29:Int):Int) > 0))
 (ldP H24 (b1,0) fun x32=>
 nck x32 fun p34=>
 Qj C (some (p34.1,p34.2+0)) [32,58,45,32] (fun r36 r37 H38=>
 ldP H38 (b1,0) fun x39=>
 ldL H38 ((b3,0).1,(b3,0).2+5) fun x41=>
 ldP H38 (b1,0) fun x43=>
 Qa2 C x39 x41 [44,32] (.func (.func 37) (List.toArray [pv x43]) (List.toArray []):Value) (fun H45=>
 J25 () H45) H38) H24)
 (J25 () H24))) H19) H18) H16) H4) H2) H
theorem QlN (C p_w p_r K H) (h:Qg2 C p_w p_r K H):Qhe C p_w p_r K H:=by
 refine Ye Tryz.func33 rfl Tryz.ntmps33 [(0,pv p_w),(1,.agg (Qk.c p_r).toArray)] (Zo (GL.box (v:=pv p_w) (cs:=[pv p_w]) h trivial rfl rfl rfl ?_))
 intro b1 H2 h
 refine GL.box (v:=.agg (Qk.c p_r).toArray) (cs:=Qk.c p_r) h trivial rfl rfl rfl ?_
 intro b3 H4 h
 refine GL.nil (GC.seq ?_)
 obtain ⟨Hs5,hle6,h⟩:=h
 refine GC.any (Hs:=Hs5) (by kernel_rfl) hle6 ?_
 obtain ⟨x7,v8,h⟩:=h
 refine Zp 0 rfl (Yo v8) ?_
 obtain ⟨p9,hp10,h⟩:=h
 refine Zp 1 rfl (OV.nilCheck (q:=x7) rfl hp10) (Zp 2 rfl Yf (Zp 3 rfl Yf ?_))
 obtain ⟨x11,v12,h⟩:=h
 refine Zp 4 rfl (Yo v12) (GA.eff 5 rfl (by kernel_rfl) (Zc h Qm ?_))
 rintro _ H16 ⟨r14,r15,rfl,h⟩
 obtain ⟨hle13,h⟩:=h
 refine GA.back hle13 (GA.done (by kernel_rfl) (GL.nil (Zo (GL.alloc (cs:=[.int .i64 0]) h trivial rfl rfl rfl ?_))))
 intro b17 H18 h
 refine GL.store (p:=(b17,0)) (v:=.int .i64 0) h trivial rfl rfl rfl rfl ?_
 intro H19 h
 refine GL.nil (Zo (Yl h fun x20 h=>?_))
 refine Zf (Yl h fun x22 h=>?_)
 refine Zv (OV.makeFunc (vs:=[]) (us:=[pv (some (b3,0)),pv (some (b17,0)),pv (some (b1,0))]) rfl rfl) (Zc h Q2 ?_)
 rintro _ H24 ⟨rfl,h⟩
 refine GL.nil ?_
 obtain ⟨J25,h,hR28⟩:=h
 refine GC.join (α:=Unit) J25 (fun _=>[(2,pv (some (b1,0)))]) ?_ ?_
 refine Zo (Zf (Yl h fun x29 h=>?_))
 refine Zq (Zi (.bool (decide (((Sl.len x29:Int):Int) > 0))) (GL.nil (Yd h (fun u31 h=>?_) fun u31 h=>?_)))
 refine Zo (Yl h fun x32 h=>?_)
 obtain ⟨p34,hp35,h⟩:=h
 refine Zv (OV.nilCheck (q:=x32) rfl hp35) (Zf (Zc h Qm ?_))
 rintro _ H38 ⟨r36,r37,rfl,h⟩
 refine GL.nil (GC.region (Yl h fun x39 h=>?_))
 refine Zf (Yl h fun x41 h=>?_)
 refine Yl h fun x43 h=>?_
 refine Zv (OV.makeFunc (vs:=[pv x43]) (us:=[]) rfl rfl) (Zc h Qe4 ?_)
 rintro _ H45 ⟨rfl,h⟩
 exact Yj I3 () h
 exact Yk I3 () h
 intro x26 H27 h
 replace h:=hR28 x26 H27 h
 refine GC.region (Yl h fun x46 h=>?_)
 obtain ⟨p48,hp49,h⟩:=h
 refine Zv (OV.nilCheck (q:=x46) rfl hp49) (Zf (Zc h Qm ?_))
 rintro _ H52 ⟨r50,r51,rfl,h⟩
 exact GL.ends (fun _ _ hf hs=>QC rfl hf hs ⟨rfl,h⟩)
def QfK (C:Ctx) (p_w:Option (Nat×Nat)) (p_l:Sl) (p_between:Str) (p_write:Value) (K:Heap→Prop) (H:Heap):Prop:=
 lp (α:=Int) 0 H (fun x1 J2 H3=>
 ift (decide ((x1:Int) < (Sl.len p_l:Int)))
 (ixa p_l x1 fun p5=>
 ldT H3 Ql.c (p5.1,p5.2+(x1:Int).toNat*4) fun x10=>
 nw (Ql.c Ql.zero) (fun b12 H13=>
 stT (b12,0) (Ql.c x10) (fun H14=>
 jn (α:=Unit) (fun x16 H17=>
 ldT H17 Ql.c (b12,0) fun x25=>
 callU Tryz.prog C p_write [.agg (Ql.c x25).toArray] H17 (fun v H27=>v=.tuple #[]∧
 J2 (w .i64 (x1+1)) H27))
 (fun J15=>ift (decide ((x1:Int) > 0))
 (nck p_w fun p20=>
 Qj C (some (p20.1,p20.2+0)) p_between (fun r22 r23 H24=>
 J15 () H24) H14)
 (J15 () H14))) H13) H3)
 (K H3))
theorem Qjw (C p_w p_l p_between p_write K H) (h:QfK C p_w p_l p_between p_write K H):Qd5 C p_w p_l p_between p_write K H:=by
 refine Ye Tryz.func34 rfl Tryz.ntmps34 [(0,pv p_w),(1,slv p_l),(2,sv p_between),(3,p_write)] (Zo (Zm (Zq (Zm (GL.nil (GC.block (Yp h (fun x1=>[(12,.int .i64 x1),(0,pv p_w),(2,sv p_between),(3,p_write),(10,slv p_l),(11,.int .i64 (Sl.len p_l:Int))]) ?_)))))))
 intro x1 H3 J2 h
 refine Zo (Zi (.bool (decide ((x1:Int) < (Sl.len p_l:Int)))) (GL.nil (GC.seq (Yd h (fun u4 h=>?_) fun u4 h=>?_))))
 refine GC.skip (GC.seq (GC.block (Zo (Zm (Yx h fun p5 h=>?_)))))
 obtain ⟨x10,v11,h⟩:=h
 refine Zv (OV.loadT rfl rfl rfl v11) (GL.alloc (cs:=Ql.c Ql.zero) h trivial rfl rfl rfl ?_)
 intro b12 H13 h
 refine Za (GL.storeT (p:=(b12,0)) (vs:=Ql.c x10) h trivial rfl rfl rfl rfl ?_)
 intro H14 h
 refine GL.nil ?_
 obtain ⟨J15,h,hR18⟩:=h
 refine GC.join (α:=Unit) J15 (fun _=>[(0,pv p_w),(2,sv p_between),(3,p_write),(9,pv (some (b12,0))),(10,slv p_l),(11,.int .i64 (Sl.len p_l:Int)),(12,.int .i64 x1)]) ?_ ?_
 refine Zo (Zm (Zi (.bool (decide ((x1:Int) > 0))) (GL.nil (Yd h (fun u19 h=>?_) fun u19 h=>?_))))
 refine GC.region (Zm ?_)
 obtain ⟨p20,hp21,h⟩:=h
 refine Zv (OV.nilCheck (q:=p_w) rfl hp21) (Zf (Zm (Zc h Qm ?_)))
 rintro _ H24 ⟨r22,r23,rfl,h⟩
 exact Yj I3 () h
 exact Yk I3 () h
 intro x16 H17 h
 replace h:=hR18 x16 H17 h
 refine GC.region (Zm ?_)
 obtain ⟨x25,v26,h⟩:=h
 refine Zv (OV.loadT rfl rfl rfl v26) (GL.callU (xv:=p_write) (vs:=[.agg (Ql.c x25).toArray]) h trivial rfl rfl rfl ?_)
 rintro _ H27 ⟨rfl,h⟩
 refine GL.nil_to (fun _ _ h=>h) (GC.region (Zi (.int .i64 (w .i64 (x1+1))) (Zm ?_)))
 exact Yj I3 (w .i64 (x1+1)) h
 exact GC.exit_ends (fun _ _ hf hs=>QC rfl hf hs ⟨rfl,h⟩)
def Qkt (C:Ctx) (p_x:Ql) (v0:Nat×Nat) (K:Heap→Prop) (H:Heap):Prop:=
 nw (Ql.c p_x) (fun b1 H2=>
 ldP H2 v0 fun x3=>
 ldS H2 ((b1,0).1,(b1,0).2+2) fun x5=>
 nw ([sv [110,101,118,101,114,32],sv x5,sv [32,58,45,32]]) (fun b7 H8=>
 QH C x3 (Sl.of (some (b7,0)) 3 3) (fun H9=>
 ldP H9 v0 fun x10=>
 ldL H9 ((b1,0).1,(b1,0).2+3) fun x12=>
 ldP H9 v0 fun x14=>
 Qa2 C x10 x12 [44,32] (.func (.func 37) (List.toArray [pv x14]) (List.toArray []):Value) (fun H16=>
 ldP H16 v0 fun x17=>
 nck x17 fun p19=>
 Qj C (some (p19.1,p19.2+0)) [46,10] (fun r21 r22 H23=>
 K H23) H16) H9) H8) H2) H
theorem Qoc (C p_x v0 K H) (h:Qkt C p_x v0 K H):QkU C p_x v0 K H:=by
 refine Ye Tryz.func35 rfl Tryz.ntmps35 [(0,.agg (Ql.c p_x).toArray),(1,pv (some v0))] (Zo (GL.box (v:=.agg (Ql.c p_x).toArray) (cs:=Ql.c p_x) h trivial rfl rfl rfl ?_))
 intro b1 H2 h
 refine GL.nil (Zo (Yl h fun x3 h=>?_))
 refine Zf (Yl h fun x5 h=>?_)
 refine GL.buildSlice (cs:=[sv [110,101,118,101,114,32],sv x5,sv [32,58,45,32]]) h trivial rfl (vs:=[(0,sv [110,101,118,101,114,32]),(1,sv x5),(2,sv [32,58,45,32])]) rfl ⟨9,fun _=>by kernel_rfl⟩ ?_
 intro b7 H8 h
 refine Zc h QV ?_
 rintro _ H9 ⟨rfl,h⟩
 refine GL.nil (Zo (Yl h fun x10 h=>?_))
 refine Zf (Yl h fun x12 h=>?_)
 refine Yl h fun x14 h=>?_
 refine Zv (OV.makeFunc (vs:=[pv x14]) (us:=[]) rfl rfl) (Zc h Qe4 ?_)
 rintro _ H16 ⟨rfl,h⟩
 refine GL.nil (GC.region (Yl h fun x17 h=>?_))
 obtain ⟨p19,hp20,h⟩:=h
 refine Zv (OV.nilCheck (q:=x17) rfl hp20) (Zf (Zc h Qm ?_))
 rintro _ H23 ⟨r21,r22,rfl,h⟩
 exact GL.ends (fun _ _ hf hs=>QC rfl hf hs ⟨rfl,h⟩)
def Qfb (C:Ctx) (p_w:Option (Nat×Nat)) (p_l:Sl) (p_between:Str) (p_write:Value) (K:Heap→Prop) (H:Heap):Prop:=
 lp (α:=Int) 0 H (fun x1 J2 H3=>
 ift (decide ((x1:Int) < (Sl.len p_l:Int)))
 (ixa p_l x1 fun p5=>
 ldT H3 Qc.c (p5.1,p5.2+(x1:Int).toNat*5) fun x10=>
 nw (Qc.c Qc.zero) (fun b12 H13=>
 stT (b12,0) (Qc.c x10) (fun H14=>
 jn (α:=Unit) (fun x16 H17=>
 ldT H17 Qc.c (b12,0) fun x25=>
 callU Tryz.prog C p_write [.agg (Qc.c x25).toArray] H17 (fun v H27=>v=.tuple #[]∧
 J2 (w .i64 (x1+1)) H27))
 (fun J15=>ift (decide ((x1:Int) > 0))
 (nck p_w fun p20=>
 Qj C (some (p20.1,p20.2+0)) p_between (fun r22 r23 H24=>
 J15 () H24) H14)
 (J15 () H14))) H13) H3)
 (K H3))
theorem Qh5 (C p_w p_l p_between p_write K H) (h:Qfb C p_w p_l p_between p_write K H):Qa2 C p_w p_l p_between p_write K H:=by
 refine Ye Tryz.func36 rfl Tryz.ntmps36 [(0,pv p_w),(1,slv p_l),(2,sv p_between),(3,p_write)] (Zo (Zm (Zq (Zm (GL.nil (GC.block (Yp h (fun x1=>[(12,.int .i64 x1),(0,pv p_w),(2,sv p_between),(3,p_write),(10,slv p_l),(11,.int .i64 (Sl.len p_l:Int))]) ?_)))))))
 intro x1 H3 J2 h
 refine Zo (Zi (.bool (decide ((x1:Int) < (Sl.len p_l:Int)))) (GL.nil (GC.seq (Yd h (fun u4 h=>?_) fun u4 h=>?_))))
 refine GC.skip (GC.seq (GC.block (Zo (Zm (Yx h fun p5 h=>?_)))))
 obtain ⟨x10,v11,h⟩:=h
 refine Zv (OV.loadT rfl rfl rfl v11) (GL.alloc (cs:=Qc.c Qc.zero) h trivial rfl rfl rfl ?_)
 intro b12 H13 h
 refine Za (GL.storeT (p:=(b12,0)) (vs:=Qc.c x10) h trivial rfl rfl rfl rfl ?_)
 intro H14 h
 refine GL.nil ?_
 obtain ⟨J15,h,hR18⟩:=h
 refine GC.join (α:=Unit) J15 (fun _=>[(0,pv p_w),(2,sv p_between),(3,p_write),(9,pv (some (b12,0))),(10,slv p_l),(11,.int .i64 (Sl.len p_l:Int)),(12,.int .i64 x1)]) ?_ ?_
 refine Zo (Zm (Zi (.bool (decide ((x1:Int) > 0))) (GL.nil (Yd h (fun u19 h=>?_) fun u19 h=>?_))))
 refine GC.region (Zm ?_)
 obtain ⟨p20,hp21,h⟩:=h
 refine Zv (OV.nilCheck (q:=p_w) rfl hp21) (Zf (Zm (Zc h Qm ?_)))
 rintro _ H24 ⟨r22,r23,rfl,h⟩
 exact Yj I3 () h
 exact Yk I3 () h
 intro x16 H17 h
 replace h:=hR18 x16 H17 h
 refine GC.region (Zm ?_)
 obtain ⟨x25,v26,h⟩:=h
 refine Zv (OV.loadT rfl rfl rfl v26) (GL.callU (xv:=p_write) (vs:=[.agg (Qc.c x25).toArray]) h trivial rfl rfl rfl ?_)
 rintro _ H27 ⟨rfl,h⟩
 refine GL.nil_to (fun _ _ h=>h) (GC.region (Zi (.int .i64 (w .i64 (x1+1))) (Zm ?_)))
 exact Yj I3 (w .i64 (x1+1)) h
 exact GC.exit_ends (fun _ _ hf hs=>QC rfl hf hs ⟨rfl,h⟩)
def QfL (C:Ctx) (p_w:Option (Nat×Nat)) (p_x:Qc) (K:Heap→Prop) (H:Heap):Prop:=
 nw (Qc.c p_x) (fun b1 H2=>
 ldI H2 .u8 ((b1,0).1,(b1,0).2+0) fun x3=>
 jn (α:=Unit) (fun x6 H7=>
 dr H7 fun Hs59=>
 nck p_w fun p61=>
 ldS Hs59 ((b1,0).1,(b1,0).2+3) fun x63=>
 Qj C (some (p61.1,p61.2+0)) x63 (fun r66 r67 H68=>
 Heap.le Hs59 H68∧
 ldL H68 ((b1,0).1,(b1,0).2+4) fun x69=>
 QF C p_w x69 (.func (.func 93) (List.toArray [pv p_w]) (List.toArray []):Value) (fun H71=>
 K H71) H68) H7)
 (fun J5=>ift ((x3:Int) == 2)
 (nck p_w fun p10=>
 Qj C (some (p10.1,p10.2+0)) [110,111,116,32] (fun r12 r13 H14=>
 J5 () H14) H2)
 (ift ((x3:Int) == 1)
 (J5 () H2)
 (ift ((x3:Int) == 4)
 (ldS H2 ((b1,0).1,(b1,0).2+3) fun x17=>
 nw ([sv x17,sv [32,61,32]]) (fun b19 H20=>
 QH C p_w (Sl.of (some (b19,0)) 2 2) (fun H21=>
 ldL H21 ((b1,0).1,(b1,0).2+4) fun x22=>
 ixa x22 0 fun p24=>
 ldT H21 Qa.c (p24.1,p24.2+(0:Int).toNat*9) fun x29=>
 Qaj C p_w x29 (fun H31=>
 K H31) H21) H20) H2)
 (jn (α:=Unit) (fun x33 H34=>
 K H34)
 (fun J32=>ldL H2 ((b1,0).1,(b1,0).2+4) fun x36=>
 ixa x36 0 fun p38=>
 ldI H2 .u8 ((p38.1,p38.2+(0:Int).toNat*9).1,(p38.1,p38.2+(0:Int).toNat*9).2+0) fun x43=>
 ift ((x43:Int) == 5)
 (ldL H2 ((b1,0).1,(b1,0).2+4) fun x46=>
 QF C p_w x46 (.func (.func 93) (List.toArray [pv p_w]) (List.toArray []):Value) (fun H48=>
 J32 () H48) H2)
 (ldL H2 ((b1,0).1,(b1,0).2+4) fun x49=>
 ixa x49 0 fun p51=>
 ldT H2 Qa.c (p51.1,p51.2+(0:Int).toNat*9) fun x56=>
 Qaj C p_w x56 (fun H58=>
 J32 () H58) H2))))))) H
theorem Qjx (C p_w p_x K H) (h:QfL C p_w p_x K H):QfX C p_w p_x K H:=by
 refine Ye Tryz.func37 rfl Tryz.ntmps37 [(0,pv p_w),(1,.agg (Qc.c p_x).toArray)] (Zo (GL.box (v:=.agg (Qc.c p_x).toArray) (cs:=Qc.c p_x) h trivial rfl rfl rfl ?_))
 intro b1 H2 h
 refine GL.nil (Zo (Zf (Yl h fun x3 h=>?_)))
 refine GL.nil (GC.block (GC.seq (GC.block (GC.seq (GC.block ?_)))))
 obtain ⟨J5,h,hR8⟩:=h
 refine GC.join (α:=Unit) J5 (fun _=>[(0,pv p_w),(3,pv (some (b1,0)))]) ?_ ?_
 refine GC.block (GC.seq (GC.block (GC.seq (GC.seq (Zo (Zi (.bool ((x3:Int) == 2)) (Za (GL.nil (Yd h (fun u9 h=>?_) fun u9 h=>?_)))))))))
 refine GC.exit_to (fun _ _ h=>h) (GC.region (Zm ?_))
 obtain ⟨p10,hp11,h⟩:=h
 refine Zv (OV.nilCheck (q:=p_w) rfl hp11) (Zf (Zc h Qm ?_))
 rintro _ H14 ⟨r12,r13,rfl,h⟩
 exact Yj I3 () h
 refine GC.skip (GC.seq (Zo (Zi (.bool ((x3:Int) == 1)) (Za (GL.nil (Yd h (fun u15 h=>?_) fun u15 h=>?_))))))
 exact GC.exit_jump (fun _ _ h=>h) () h ⟨rfl,rfl,trivial⟩
 refine GC.skip (Zo (Zi (.bool ((x3:Int) == 4)) (Za (GL.nil (Yd h (fun u16 h=>?_) fun u16 h=>?_)))))
 refine GC.exit_to (fun _ _ h=>h) (GC.seq (Zo (Zm (Zf ?_))))
 refine Yl h fun x17 h=>?_
 refine GL.buildSlice (cs:=[sv x17,sv [32,61,32]]) h trivial rfl (vs:=[(0,sv x17),(1,sv [32,61,32])]) rfl ⟨9,fun _=>by kernel_rfl⟩ ?_
 intro b19 H20 h
 refine Zc h QV ?_
 rintro _ H21 ⟨rfl,h⟩
 refine GL.nil (GC.region (Zm (Zf (Yl h fun x22 h=>?_))))
 refine Yx h fun p24 h=>?_
 obtain ⟨x29,v30,h⟩:=h
 refine Zv (OV.loadT rfl rfl rfl v30) (Zc h Qaa ?_)
 rintro _ H31 ⟨rfl,h⟩
 refine GL.nil ?_
 exact GC.exit_ends (fun _ _ hf hs=>QC rfl hf hs ⟨rfl,h⟩)
 refine GC.skip (GC.exit_to (fun _ _ h=>h) ?_)
 obtain ⟨J32,h,hR35⟩:=h
 refine GC.join (α:=Unit) J32 (fun _=>[]) ?_ ?_
 refine Zo (Zf (Yl h fun x36 h=>?_))
 refine Yx h fun p38 h=>?_
 refine Zf (Yl h fun x43 h=>?_)
 refine Zi (.bool ((x43:Int) == 5)) (GL.nil (Yd h (fun u45 h=>?_) fun u45 h=>?_))
 refine GC.region (Zm (Zf (Yl h fun x46 h=>?_)))
 refine Zm (Zv (OV.makeFunc (vs:=[pv p_w]) (us:=[]) rfl rfl) (Zc h Q2 ?_))
 rintro _ H48 ⟨rfl,h⟩
 exact GL.jump (fun _ _ h=>h) () h trivial
 refine GC.region (Zm (Zf (Yl h fun x49 h=>?_)))
 refine Yx h fun p51 h=>?_
 obtain ⟨x56,v57,h⟩:=h
 refine Zv (OV.loadT rfl rfl rfl v57) (Zc h Qaa ?_)
 rintro _ H58 ⟨rfl,h⟩
 exact GL.jump (fun _ _ h=>h) () h trivial
 intro x33 H34 h
 replace h:=hR35 x33 H34 h
 exact GC.exit_ends (fun _ _ hf hs=>QC rfl hf hs ⟨rfl,h⟩)
 intro x6 H7 h
 replace h:=hR8 x6 H7 h
 refine GC.seq (GC.seq ?_)
 obtain ⟨Hs59,hle60,h⟩:=h
 refine GC.any (Hs:=Hs59) (by kernel_rfl) hle60 (Zp 0 rfl Ym ?_)
 obtain ⟨p61,hp62,h⟩:=h
 refine Zp 1 rfl (OV.nilCheck (q:=p_w) rfl hp62) (Zp 2 rfl Yf (Zp 3 rfl Yf ?_))
 obtain ⟨x63,v64,h⟩:=h
 refine Zp 4 rfl (Yo v64) (GA.eff 5 rfl (by kernel_rfl) (Zc h Qm ?_))
 rintro _ H68 ⟨r66,r67,rfl,h⟩
 obtain ⟨hle65,h⟩:=h
 refine GA.back hle65 (GA.done (by kernel_rfl) (GL.nil (GC.region (Zm (Zf (Yl h fun x69 h=>?_))))))
 refine Zm (Zv (OV.makeFunc (vs:=[pv p_w]) (us:=[]) rfl rfl) (Zc h Q2 ?_))
 rintro _ H71 ⟨rfl,h⟩
 refine GL.nil ?_
 exact GC.exit_ends (fun _ _ hf hs=>QC rfl hf hs ⟨rfl,h⟩)
def Qc1 (C:Ctx) (p_b:Option (Nat×Nat)) (p_s:Str) (K:Int→Value→Heap→Prop) (H:Heap):Prop:=
 Qa0 C p_b (fun H1=>
 nck p_b fun p2=>
 ldL H1 (p2.1,p2.2+1) fun x4=>
 apdG 5 [.int .u8 0] 1 x4 (bytesV p_s) (List.length p_s) (fun r6 H7=>
 nck p_b fun p8=>
 sttG (p8.1,p8.2+1) (slv r6) (fun H10=>
 K (List.length p_s:Int) .nilIface H10) H7) H1) H
theorem QfV (C p_b p_s K H) (h:Qc1 C p_b p_s K H):Qj C p_b p_s K H:=by
 refine Ye Tryz.func38 rfl Tryz.ntmps38 [(0,pv p_b),(1,sv p_s)] (Zo (Za (Za (GL.nil (Zo (Zm (Zc h QdM ?_)))))))
 rintro _ H1 ⟨rfl,h⟩
 refine GL.nil (Zo (Zm (Zm ?_)))
 obtain ⟨p2,hp3,h⟩:=h
 refine Zv (OV.nilCheck (q:=p_b) rfl hp3) (Zf (Yl h fun x4 h=>?_))
 refine Zm (GL.appendGStr (e:=5) (s:=x4) (u:=p_s) (bytes:=1) h trivial rfl rfl rfl ⟨⟨_,_,rfl,rfl,rfl,rfl,rfl,rfl⟩⟩ rfl ?_)
 intro r6 H7 h
 obtain ⟨p8,hp9,h⟩:=h
 refine Zv (OV.nilCheck (q:=p_b) rfl hp9) (Zf (GL.storeG (p:=(p8.1,p8.2+1)) (v:=slv r6) h trivial rfl rfl rfl rfl ?_))
 intro H10 h
 refine GL.nil (Zo (Zm (Zr (Za (Za (GL.nil ?_))))))
 exact Y2 I3 ⟨(List.length p_s:Int),.nilIface,rfl,h⟩
def QeP (C:Ctx) (p_b:Option (Nat×Nat)) (K:Str→Heap→Prop) (H:Heap):Prop:=
 dr H fun Hs1=>
 nck p_b fun p3=>
 ldL Hs1 (p3.1,p3.2+1) fun x5=>
 ((Sl.p x5=none∨Sl.cap x5≠0)∧Sl.x x5=none)∧
 nck p_b fun p9=>
 ldL Hs1 (p9.1,p9.2+1) fun x11=>
 ust 5 (Sl.p x5) (Sl.len x11:Int) (fun r14 H15=>
 Heap.le Hs1 H15∧
 K r14 H15) H
theorem Qhu (C p_b K H) (h:QeP C p_b K H):QU C p_b K H:=by
 refine Ye Tryz.func39 rfl Tryz.ntmps39 [(0,pv p_b)] (Zo (Za (GL.nil (GC.seq ?_))))
 obtain ⟨Hs1,hle2,h⟩:=h
 refine GC.any (Hs:=Hs1) (by kernel_rfl) hle2 (Zp 0 rfl Ym ?_)
 obtain ⟨p3,hp4,h⟩:=h
 refine Zp 1 rfl (OV.nilCheck (q:=p_b) rfl hp4) (Zp 2 rfl Yf ?_)
 obtain ⟨x5,v6,h⟩:=h
 refine Zp 3 rfl (Yo v6) ?_
 obtain ⟨⟨h7,h8⟩,h⟩:=h
 refine Zp 4 rfl (OV.usd (s:=x5) h7 h8 rfl) (Zp 5 rfl Ym ?_)
 obtain ⟨p9,hp10,h⟩:=h
 refine Zp 6 rfl (OV.nilCheck (q:=p_b) rfl hp10) (Zp 7 rfl Yf ?_)
 obtain ⟨x11,v12,h⟩:=h
 refine Zp 8 rfl (Yo v12) (Zp 9 rfl (OV.lenSl rfl rfl) (GA.eff 10 rfl (by kernel_rfl) (GL.ust (e:=5) (p:=(Sl.p x5)) (m:=(Sl.len x11:Int)) h trivial rfl rfl rfl rfl (by kernel_rfl) ?_)))
 intro r14 H15 h
 obtain ⟨hle13,h⟩:=h
 refine GA.back hle13 (Zp 11 rfl Ya (GA.done (by kernel_rfl) (GL.nil ?_)))
 exact Y1 I3 ⟨r14,rfl,h⟩
def QiC (C:Ctx) (p_t:Qf) (K:Str→Heap→Prop) (H:Heap):Prop:=
 nw (Qf.c p_t) (fun b1 H2=>
 dr H2 fun Hs3=>
 ldB Hs3 ((b1,0).1,(b1,0).2+2) fun x5=>
 ldS Hs3 ((b1,0).1,(b1,0).2+3) fun x7=>
 QiU C x5 (fun r10 H11=>
 Heap.le Hs3 H11∧
 catOk r10 ([116,121,112,101,32]:Str)∧
 catOk (r10++([116,121,112,101,32]:Str)) x7∧
 lp (α:=Str×Int) (((r10++([116,121,112,101,32]:Str))++x7),0) H11 (fun x14 J15 H16=>
 ldL H16 ((b1,0).1,(b1,0).2+4) fun x17=>
 ift (decide ((x14.2:Int) < (Sl.len x17:Int)))
 (jn (α:=Str) (fun x21 H22=>
 J15 (x21,(w .i64 (x14.2+1))) H22)
 (fun J20=>jn (α:=Str) (fun x25 H26=>
 ldL H26 ((b1,0).1,(b1,0).2+4) fun x51=>
 ift ((x14.2:Int) == (w .i64 ((Sl.len x51:Int) - 1)))
 (catOk x25 ([41]:Str)∧
 J20 (x25++([41]:Str)) H26)
 (J20 x25 H26))
 (fun J24=>ift ((x14.2:Int) == 0)
 (catOk x14.1 ([40]:Str)∧
 ldL H16 ((b1,0).1,(b1,0).2+4) fun x30=>
 ixa x30 x14.2 fun p32=>
 ldS H16 (p32.1,p32.2+(x14.2:Int).toNat*1) fun x37=>
 catOk (x14.1++([40]:Str)) x37∧
 J24 ((x14.1++([40]:Str))++x37) H16)
 (catOk x14.1 ([44,32]:Str)∧
 ldL H16 ((b1,0).1,(b1,0).2+4) fun x41=>
 ixa x41 x14.2 fun p43=>
 ldS H16 (p43.1,p43.2+(x14.2:Int).toNat*1) fun x48=>
 catOk (x14.1++([44,32]:Str)) x48∧
 J24 ((x14.1++([44,32]:Str))++x48) H16))))
 (catOk x14.1 ([32,61,32]:Str)∧
 lp (α:=Str×Int) ((x14.1++([32,61,32]:Str)),0) H16 (fun x56 J57 H58=>
 ldL H58 ((b1,0).1,(b1,0).2+5) fun x59=>
 ift (decide ((x56.2:Int) < (Sl.len x59:Int)))
 (jn (α:=Str) (fun x63 H64=>
 J57 (x63,(w .i64 (x56.2+1))) H64)
 (fun J62=>jn (α:=Str) (fun x67 H68=>
 ldL H68 ((b1,0).1,(b1,0).2+5) fun x72=>
 ixa x72 x56.2 fun p74=>
 ldS H68 ((p74.1,p74.2+(x56.2:Int).toNat*2).1,(p74.1,p74.2+(x56.2:Int).toNat*2).2+0) fun x79=>
 catOk x67 x79∧
 ldL H68 ((b1,0).1,(b1,0).2+5) fun x82=>
 ixa x82 x56.2 fun p84=>
 ldL H68 ((p84.1,p84.2+(x56.2:Int).toNat*2).1,(p84.1,p84.2+(x56.2:Int).toNat*2).2+1) fun x89=>
 ift (decide (((Sl.len x89:Int):Int) > 0))
 (catOk (x67++x79) ([40]:Str)∧
 ldL H68 ((b1,0).1,(b1,0).2+5) fun x93=>
 ixa x93 x56.2 fun p95=>
 ldL H68 ((p95.1,p95.2+(x56.2:Int).toNat*2).1,(p95.1,p95.2+(x56.2:Int).toNat*2).2+1) fun x100=>
 Qau C x100 (fun r102 H103=>
 catOk ((x67++x79)++([40]:Str)) r102∧
 catOk (((x67++x79)++([40]:Str))++r102) ([41]:Str)∧
 J62 ((((x67++x79)++([40]:Str))++r102)++([41]:Str)) H103) H68)
 (J62 (x67++x79) H68))
 (fun J66=>ift (decide ((x56.2:Int) > 0))
 (catOk x56.1 ([32,124,32]:Str)∧
 J66 (x56.1++([32,124,32]:Str)) H58)
 (J66 x56.1 H58))))
 (catOk x56.1 ([10]:Str)∧
 K (x56.1++([10]:Str)) H58))))) H2) H
theorem Qm1 (C p_t K H) (h:QiC C p_t K H):QbM C p_t K H:=by
 refine Ye Tryz.func40 rfl Tryz.ntmps40 [(0,.agg (Qf.c p_t).toArray)] (Zo (GL.box (v:=.agg (Qf.c p_t).toArray) (cs:=Qf.c p_t) h trivial rfl rfl rfl ?_))
 intro b1 H2 h
 refine Za (GL.nil (GC.seq ?_))
 obtain ⟨Hs3,hle4,h⟩:=h
 refine GC.any (Hs:=Hs3) (by kernel_rfl) hle4 (Zp 0 rfl Yf ?_)
 obtain ⟨x5,v6,h⟩:=h
 refine Zp 1 rfl (Yo v6) (Zp 4 rfl Yf ?_)
 obtain ⟨x7,v8,h⟩:=h
 refine Zp 5 rfl (Yo v8) (GA.eff 2 rfl (by kernel_rfl) (Zc h Qnm ?_))
 rintro _ H11 ⟨r10,rfl,h⟩
 obtain ⟨hle9,h⟩:=h
 refine GA.back hle9 ?_
 obtain ⟨hl12,h⟩:=h
 refine Zp 3 rfl (OV.cat (a:=r10) (b:=([116,121,112,101,32]:Str)) rfl rfl hl12) ?_
 obtain ⟨hl13,h⟩:=h
 refine Zp 6 rfl (OV.cat (a:=(r10++([116,121,112,101,32]:Str))) (b:=x7) rfl rfl hl13) (Zp 7 rfl Ya (GA.done (by kernel_rfl) (GL.nil (GC.seq (Zo (Za (GL.nil (GC.block (Yp h (fun x14=>[(3,sv x14.1),(4,.int .i64 x14.2),(1,pv (some (b1,0)))]) ?_)))))))))
 intro x14 H16 J15 h
 refine GC.seq (Zo (Zm (Zf (Yl h fun x17 h=>?_))))
 refine Zq (Zi (.bool (decide ((x14.2:Int) < (Sl.len x17:Int)))) (GL.nil (Yd h (fun u19 h=>?_) fun u19 h=>?_)))
 refine GC.skip ?_
 obtain ⟨J20,h,hR23⟩:=h
 refine GC.join (α:=Str) J20 (fun x21=>[(3,sv x21),(1,pv (some (b1,0))),(4,.int .i64 x14.2)]) ?_ ?_
 refine GC.block ?_
 obtain ⟨J24,h,hR27⟩:=h
 refine GC.join (α:=Str) J24 (fun x25=>[(3,sv x25),(1,pv (some (b1,0))),(4,.int .i64 x14.2)]) ?_ ?_
 refine Zo (Zm (Zi (.bool ((x14.2:Int) == 0)) (GL.nil (Yd h (fun u28 h=>?_) fun u28 h=>?_))))
 refine GC.region (Zm ?_)
 obtain ⟨hl29,h⟩:=h
 refine Zv (OV.cat (a:=x14.1) (b:=([40]:Str)) rfl rfl hl29) (Zf (Yl h fun x30 h=>?_))
 refine Zm (Yx h fun p32 h=>?_)
 refine Yl h fun x37 h=>?_
 obtain ⟨hl39,h⟩:=h
 refine Zv (OV.cat (a:=(x14.1++([40]:Str))) (b:=x37) rfl rfl hl39) (Za ?_)
 exact Yj I3 ((x14.1++([40]:Str))++x37) h
 refine GC.region (Zm ?_)
 obtain ⟨hl40,h⟩:=h
 refine Zv (OV.cat (a:=x14.1) (b:=([44,32]:Str)) rfl rfl hl40) (Zf (Yl h fun x41 h=>?_))
 refine Zm (Yx h fun p43 h=>?_)
 refine Yl h fun x48 h=>?_
 obtain ⟨hl50,h⟩:=h
 refine Zv (OV.cat (a:=(x14.1++([44,32]:Str))) (b:=x48) rfl rfl hl50) (Za ?_)
 exact Yj I3 ((x14.1++([44,32]:Str))++x48) h
 intro x25 H26 h
 replace h:=hR27 x25 H26 h
 refine Zo (Zm (Zf (Yl h fun x51 h=>?_)))
 refine Zq (Zi (.int .i64 (w .i64 ((Sl.len x51:Int) - 1))) (Zi (.bool ((x14.2:Int) == (w .i64 ((Sl.len x51:Int) - 1)))) (GL.nil (Yd h (fun u53 h=>?_) fun u53 h=>?_))))
 refine GC.region (Zm ?_)
 obtain ⟨hl54,h⟩:=h
 refine Zv (OV.cat (a:=x25) (b:=([41]:Str)) rfl rfl hl54) (Za ?_)
 exact Yj I3 (x25++([41]:Str)) h
 exact Yk I3 x25 h
 intro x21 H22 h
 replace h:=hR23 x21 H22 h
 refine GC.region (Zm (Zi (.int .i64 (w .i64 (x14.2+1))) (Za ?_)))
 exact Yj I3 (x21,(w .i64 (x14.2+1))) h
 refine GC.exit_to (fun _ _ h=>h) (Zo (Zm ?_))
 obtain ⟨hl55,h⟩:=h
 refine Zv (OV.cat (a:=x14.1) (b:=([32,61,32]:Str)) rfl rfl hl55) (Za (GL.nil (GC.seq (Zo (Za (GL.nil (GC.block (Yp h (fun x56=>[(3,sv x56.1),(5,.int .i64 x56.2),(1,pv (some (b1,0)))]) ?_))))))))
 intro x56 H58 J57 h
 refine GC.seq (Zo (Zm (Zf (Yl h fun x59 h=>?_))))
 refine Zq (Zi (.bool (decide ((x56.2:Int) < (Sl.len x59:Int)))) (GL.nil (Yd h (fun u61 h=>?_) fun u61 h=>?_)))
 refine GC.skip ?_
 obtain ⟨J62,h,hR65⟩:=h
 refine GC.join (α:=Str) J62 (fun x63=>[(3,sv x63),(1,pv (some (b1,0))),(5,.int .i64 x56.2)]) ?_ ?_
 refine GC.block ?_
 obtain ⟨J66,h,hR69⟩:=h
 refine GC.join (α:=Str) J66 (fun x67=>[(3,sv x67),(1,pv (some (b1,0))),(5,.int .i64 x56.2)]) ?_ ?_
 refine Zo (Zm (Zi (.bool (decide ((x56.2:Int) > 0))) (GL.nil (Yd h (fun u70 h=>?_) fun u70 h=>?_))))
 refine GC.region (Zm ?_)
 obtain ⟨hl71,h⟩:=h
 refine Zv (OV.cat (a:=x56.1) (b:=([32,124,32]:Str)) rfl rfl hl71) (Za ?_)
 exact Yj I3 (x56.1++([32,124,32]:Str)) h
 exact Yk I3 x56.1 h
 intro x67 H68 h
 replace h:=hR69 x67 H68 h
 refine Zo (Zm (Zf (Yl h fun x72 h=>?_)))
 refine Zm (Yx h fun p74 h=>?_)
 refine Zf (Yl h fun x79 h=>?_)
 obtain ⟨hl81,h⟩:=h
 refine Zv (OV.cat (a:=x67) (b:=x79) rfl rfl hl81) (Za (GL.nil (Zo (Zf (Yl h fun x82 h=>?_)))))
 refine Zm (Yx h fun p84 h=>?_)
 refine Zf (Yl h fun x89 h=>?_)
 refine Zq (Zi (.bool (decide (((Sl.len x89:Int):Int) > 0))) (GL.nil (Yd h (fun u91 h=>?_) fun u91 h=>?_)))
 refine GC.region (Zm ?_)
 obtain ⟨hl92,h⟩:=h
 refine Zv (OV.cat (a:=(x67++x79)) (b:=([40]:Str)) rfl rfl hl92) (Zf (Yl h fun x93 h=>?_))
 refine Zm (Yx h fun p95 h=>?_)
 refine Zf (Yl h fun x100 h=>?_)
 refine Zc h QgQ ?_
 rintro _ H103 ⟨r102,rfl,h⟩
 obtain ⟨hl104,h⟩:=h
 refine Zv (OV.cat (a:=((x67++x79)++([40]:Str))) (b:=r102) rfl rfl hl104) ?_
 obtain ⟨hl105,h⟩:=h
 refine Zv (OV.cat (a:=(((x67++x79)++([40]:Str))++r102)) (b:=([41]:Str)) rfl rfl hl105) (Za ?_)
 exact Yj I3 ((((x67++x79)++([40]:Str))++r102)++([41]:Str)) h
 exact Yk I3 (x67++x79) h
 intro x63 H64 h
 replace h:=hR65 x63 H64 h
 refine GC.region (Zm (Zi (.int .i64 (w .i64 (x56.2+1))) (Za ?_)))
 exact Yj I3 (x63,(w .i64 (x56.2+1))) h
 refine GC.exit_to (fun _ _ h=>h) (Zo (Zm ?_))
 obtain ⟨hl106,h⟩:=h
 refine Zv (OV.cat (a:=x56.1) (b:=([10]:Str)) rfl rfl hl106) (Za (GL.nil ?_))
 exact Y1 I3 ⟨(x56.1++([10]:Str)),rfl,h⟩
def Qnr (C:Ctx) (p_is:Bool) (K:Str→Heap→Prop) (H:Heap):Prop:=
 ift p_is
 (K [112,117,98,32] H)
 (K [] H)
theorem QqL (C p_is K H) (h:Qnr C p_is K H):QiU C p_is K H:=by
 refine Ye Tryz.func41 rfl Tryz.ntmps41 [(0,.bool p_is)] (Zo (Za (GL.nil (GC.seq (Zo (Zm (GL.nil (Yd h (fun u1 h=>?_) fun u1 h=>?_))))))))
 refine Zo (Za (GL.nil ?_))
 exact Y1 I3 ⟨[112,117,98,32],rfl,h⟩
 refine GC.skip (Zo (Za (GL.nil ?_)))
 exact Y1 I3 ⟨[],rfl,h⟩
end
end Sx
end
