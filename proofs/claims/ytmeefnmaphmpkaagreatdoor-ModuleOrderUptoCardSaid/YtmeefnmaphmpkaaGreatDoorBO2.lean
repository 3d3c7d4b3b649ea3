/-
  Texts of this family, one behind the other: Sh1, Sh2.
-/
import Derived.Test.YtmeefnmaphmpkaaGreatDoorBO1
import Derived.Test.YtmeefnmaphmpkaaGreatDoorProg
noncomputable section
set_option linter.unusedVariables false
set_option linter.unusedSimpArgs false
set_option maxRecDepth 10000
namespace Sx
section
set_option maxRecDepth 100000
open Go Go.Proofs
structure Qa where
 Name:Str
 Imports:Sl
 Types:Sl
 Rels:Sl
 Rules:Sl
 Nevers:Sl
def Qa.c (x:Qa):List Value:=[sv x.Name,slv x.Imports,slv x.Types,slv x.Rels,slv x.Rules,slv x.Nevers]
def Qa.zero:Qa:=⟨[],Sl.nil,Sl.nil,Sl.nil,Sl.nil,Sl.nil⟩
structure Qo where
 Line:Int
 Col:Int
def Qo.c (x:Qo):List Value:=[.int .i64 x.Line,.int .i64 x.Col]
def Qo.zero:Qo:=⟨0,0⟩
structure Qh where
 Pos:Qo
 Pub:Bool
 Input:Bool
 Name:Str
 Fields:Sl
def Qh.c (x:Qh):List Value:=[.int .i64 x.Pos.Line,.int .i64 x.Pos.Col,.bool x.Pub,.bool x.Input,sv x.Name,slv x.Fields]
def Qh.zero:Qh:=⟨Qo.zero,false,false,[],Sl.nil⟩
structure Qk where
 Kind:Int
 Pos:Qo
 Rel:Str
 Args:Sl
def Qk.c (x:Qk):List Value:=[.int .u8 x.Kind,.int .i64 x.Pos.Line,.int .i64 x.Pos.Col,sv x.Rel,slv x.Args]
def Qk.zero:Qk:=⟨0,Qo.zero,[],Sl.nil⟩
structure Qj where
 Pos:Qo
 Rel:Str
 Args:Sl
 Aggs:Sl
 Body:Sl
def Qj.c (x:Qj):List Value:=[.int .i64 x.Pos.Line,.int .i64 x.Pos.Col,sv x.Rel,slv x.Args,slv x.Aggs,slv x.Body]
def Qj.zero:Qj:=⟨Qo.zero,[],Sl.nil,Sl.nil,Sl.nil⟩
structure Qi where
 Module:Str
 Pos:Qo
def Qi.c (x:Qi):List Value:=[sv x.Module,.int .i64 x.Pos.Line,.int .i64 x.Pos.Col]
def Qi.zero:Qi:=⟨[],Qo.zero⟩
structure Qs2 where
 at_:Qi
 e_:Int
structure Qd where
 Name:Str
 Args:Sl
def Qd.c (x:Qd):List Value:=[sv x.Name,slv x.Args]
def Qd.zero:Qd:=⟨[],Sl.nil⟩
structure Qp where
 Pos:Qo
 Name:Str
def Qp.c (x:Qp):List Value:=[.int .i64 x.Pos.Line,.int .i64 x.Pos.Col,sv x.Name]
def Qp.zero:Qp:=⟨Qo.zero,[]⟩
structure Qc where
 Pos:Qo
 Pub:Bool
 Name:Str
 Params:Sl
 Cons:Sl
def Qc.c (x:Qc):List Value:=[.int .i64 x.Pos.Line,.int .i64 x.Pos.Col,.bool x.Pub,sv x.Name,slv x.Params,slv x.Cons]
def Qc.zero:Qc:=⟨Qo.zero,false,[],Sl.nil,Sl.nil⟩
structure Qm where
 Pos:Qo
 Name:Str
 Body:Sl
def Qm.c (x:Qm):List Value:=[.int .i64 x.Pos.Line,.int .i64 x.Pos.Col,sv x.Name,slv x.Body]
def Qm.zero:Qm:=⟨Qo.zero,[],Sl.nil⟩
structure Qg where
 Name:Str
 Fields:Sl
def Qg.c (x:Qg):List Value:=[sv x.Name,slv x.Fields]
def Qg.zero:Qg:=⟨[],Sl.nil⟩
structure Qe where
 Kind:Int
 N:Int
 S:Str
 L:Sl
def Qe.c (x:Qe):List Value:=[.int .u8 x.Kind,.int .i64 x.N,sv x.S,slv x.L]
def Qe.zero:Qe:=⟨0,0,[],Sl.nil⟩
structure Qb where
 Kind:Int
 Pos:Qo
 Name:Str
 Value_:Qe
 Args:Sl
def Qb.c (x:Qb):List Value:=[.int .u8 x.Kind,.int .i64 x.Pos.Line,.int .i64 x.Pos.Col,sv x.Name,.int .u8 x.Value_.Kind,.int .i64 x.Value_.N,sv x.Value_.S,slv x.Value_.L,slv x.Args]
def Qb.zero:Qb:=⟨0,Qo.zero,[],Qe.zero,Sl.nil⟩
structure Qf where
 Name:Str
 Type_:Qd
def Qf.c (x:Qf):List Value:=[sv x.Name,sv x.Type_.Name,slv x.Type_.Args]
def Qf.zero:Qf:=⟨[],Qd.zero⟩
structure Q5 where
 l_:Sl
 told_:Option Nat
def Q5.c (x:Q5):List Value:=[slv x.l_,mv x.told_]
structure Qs where
 at_:Qi
 e_:Int
def Qs.c (x:Qs):List Value:=[sv x.at_.Module,.int .i64 x.at_.Pos.Line,.int .i64 x.at_.Pos.Col,.int .i64 x.e_]
def Qs.zero:Qs:=⟨Qi.zero,0⟩
structure QbR where
 addr_:Option (Nat×Nat)
 buf_:Sl
def QbR.zero:QbR:=⟨none,Sl.nil⟩
structure Qdh where
 Builder:QbR
def Qdh.c (x:Qdh):List Value:=[pv x.Builder.addr_,slv x.Builder.buf_]
structure Qv where
 mod_:Str
 own_:Str
 kind_:Int
def Qv.c (x:Qv):List Value:=[sv x.mod_,sv x.own_,.int .i64 x.kind_]
def Qv.zero:Qv:=⟨[],[],0⟩
structure QnE where
 lo_:Int
 hi_:Int
theorem Qe0:CallOk Tryz.prog 12:=okx Tryz.func12
theorem Qkl:CallOk Tryz.prog 13:=okx Tryz.func13
theorem QnV:CallOk Tryz.prog 14:=okx Tryz.func14
theorem QkU:CallOk Tryz.prog 18:=okx Tryz.func18
theorem QhA:CallOk Tryz.prog 19:=okx Tryz.func19
theorem Qll:CallOk Tryz.prog 20:=okx Tryz.func20
theorem Qa1:CallOk Tryz.prog 21:=okx Tryz.func21
theorem Qhy:CallOk Tryz.prog 22:=okx Tryz.func22
theorem QgW:CallOk Tryz.prog 23:=okx Tryz.func23
theorem Qil:CallOk Tryz.prog 24:=okx Tryz.func24
theorem Qhz:CallOk Tryz.prog 25:=okx Tryz.func25
theorem QiW:CallOk Tryz.prog 26:=okx Tryz.func26
theorem Qo7:CallOk Tryz.prog 27:=okx Tryz.func27
theorem QhB:CallOk Tryz.prog 35:=okx Tryz.func35
theorem Qeu:CallOk Tryz.prog 36:=okx Tryz.func36
theorem Qlk:CallOk Tryz.prog 37:=okx Tryz.func37
theorem QlT:CallOk Tryz.prog 38:=okx Tryz.func38
theorem QpF:CallOk Tryz.prog 39:=okx Tryz.func39
theorem Qbb:CallOk Tryz.prog 40:=okx Tryz.func40
theorem QiY:CallOk Tryz.prog 41:=okx Tryz.func41
theorem Qni:CallOk Tryz.prog 42:=okx Tryz.func42
theorem Qiq:CallOk Tryz.prog 43:=okx Tryz.func43
theorem Qnr:CallOk Tryz.prog 44:=okx Tryz.func44
theorem QiZ:CallOk Tryz.prog 45:=okx Tryz.func45
theorem Qnj:CallOk Tryz.prog 46:=okx Tryz.func46
theorem Qko:CallOk Tryz.prog 47:=okx Tryz.func47
theorem Qfx:CallOk Tryz.prog 48:=okx Tryz.func48
theorem QpG:CallOk Tryz.prog 49:=okx Tryz.func49
theorem Qe9:CallOk Tryz.prog 50:=okx Tryz.func50
theorem Qnk:CallOk Tryz.prog 51:=okx Tryz.func51
theorem Qew:CallOk Tryz.prog 52:=okx Tryz.func52
theorem Qnp:CallOk Tryz.prog 53:=okx Tryz.func53
theorem Qnl:CallOk Tryz.prog 54:=okx Tryz.func54
theorem Qnm:CallOk Tryz.prog 55:=okx Tryz.func55
theorem Q6:CallOk Tryz.prog 56:=okx Tryz.func56
theorem Qbu:CallOk Tryz.prog 57:=okx Tryz.func57
theorem QE:CallOk Tryz.prog 58:=okx Tryz.func58
theorem Qf1:CallOk Tryz.prog 59:=okx Tryz.func59
theorem QdH:CallOk Tryz.prog 60:=okx Tryz.func60
theorem Qbw:CallOk Tryz.prog 61:=okx Tryz.func61
theorem QbK:CallOk Tryz.prog 62:=okx Tryz.func62
theorem Qar:CallOk Tryz.prog 63:=okx Tryz.func63
theorem QgX:CallOk Tryz.prog 64:=okx Tryz.func64
theorem Qkn:CallOk Tryz.prog 65:=okx Tryz.func65
theorem Qco:CallOk Tryz.prog 66:=okx Tryz.func66
theorem QdY:CallOk Tryz.prog 67:=okx Tryz.func67
theorem Qbv:CallOk Tryz.prog 68:=okx Tryz.func68
theorem Qfw:CallOk Tryz.prog 69:=okx Tryz.func69
theorem Qch:CallOk Tryz.prog 70:=okx Tryz.func70
theorem QeJ:CallOk Tryz.prog 71:=okx Tryz.func71
theorem QL:CallOk Tryz.prog 72:=okx Tryz.func72
theorem Qis:CallOk Tryz.prog 73:=okx Tryz.func73
theorem Qnn:CallOk Tryz.prog 74:=okx Tryz.func74
theorem QhK:CallOk Tryz.prog 75:=okx Tryz.func75
theorem Qi4:CallOk Tryz.prog 76:=okx Tryz.func76
theorem Qit:CallOk Tryz.prog 77:=okx Tryz.func77
theorem Qjz:CallOk Tryz.prog 78:=okx Tryz.func78
theorem Qjx:CallOk Tryz.prog 79:=okx Tryz.func79
theorem QkY:CallOk Tryz.prog 80:=okx Tryz.func80
theorem Qi2:CallOk Tryz.prog 81:=okx Tryz.func81
theorem Qno:CallOk Tryz.prog 82:=okx Tryz.func82
theorem QdZ:CallOk Tryz.prog 83:=okx Tryz.func83
theorem Qi3:CallOk Tryz.prog 84:=okx Tryz.func84
theorem Qn:CallOk Tryz.prog 85:=okx Tryz.func85
theorem QdJ:CallOk Tryz.prog 86:=okx Tryz.func86
theorem QlU:CallOk Tryz.prog 103:=okx Tryz.func103
theorem Qf5:CallOk Tryz.prog 104:=okx Tryz.func104
theorem QnW:CallOk Tryz.prog 105:=okx Tryz.func105
theorem Qf4:CallOk Tryz.prog 106:=okx Tryz.func106
theorem Qmt:CallOk Tryz.prog 107:=okx Tryz.func107
theorem QcR:CallOk Tryz.prog 108:=okx Tryz.func108
theorem Qln:CallOk Tryz.prog 109:=okx Tryz.func109
theorem Qgm:CallOk Tryz.prog 110:=okx Tryz.func110
theorem QnX:CallOk Tryz.prog 111:=okx Tryz.func111
theorem QhH:CallOk Tryz.prog 112:=okx Tryz.func112
theorem QnY:CallOk Tryz.prog 113:=okx Tryz.func113
theorem QbZ:CallOk Tryz.prog 114:=okx Tryz.func114
theorem Qlm:CallOk Tryz.prog 115:=okx Tryz.func115
theorem Qc9:CallOk Tryz.prog 116:=okx Tryz.func116
theorem Qke:CallOk Tryz.prog 117:=okx Tryz.func117
theorem Qg4:CallOk Tryz.prog 118:=okx Tryz.func118
theorem QnZ:CallOk Tryz.prog 119:=okx Tryz.func119
theorem Ql5:CallOk Tryz.prog 120:=okx Tryz.func120
theorem QkV:CallOk Tryz.prog 121:=okx Tryz.func121
theorem QhF:CallOk Tryz.prog 122:=okx Tryz.func122
theorem QbP:CallOk Tryz.prog 123:=okx Tryz.func123
theorem Qg2:CallOk Tryz.prog 124:=okx Tryz.func124
theorem Qgs:CallOk Tryz.prog 125:=okx Tryz.func125
theorem Qlo:CallOk Tryz.prog 126:=okx Tryz.func126
theorem Qio:CallOk Tryz.prog 127:=okx Tryz.func127
theorem QlV:CallOk Tryz.prog 128:=okx Tryz.func128
theorem Qb1:CallOk Tryz.prog 129:=okx Tryz.func129
theorem QhG:CallOk Tryz.prog 130:=okx Tryz.func130
theorem QhE:CallOk Tryz.prog 131:=okx Tryz.func131
theorem Qmu:CallOk Tryz.prog 132:=okx Tryz.func132
theorem Qlp:CallOk Tryz.prog 133:=okx Tryz.func133
theorem Qc0:CallOk Tryz.prog 134:=okx Tryz.func134
theorem Qi0:CallOk Tryz.prog 135:=okx Tryz.func135
theorem Qgt:CallOk Tryz.prog 136:=okx Tryz.func136
theorem QdB:CallOk Tryz.prog 137:=okx Tryz.func137
theorem Qjv:CallOk Tryz.prog 138:=okx Tryz.func138
theorem Qn1:CallOk Tryz.prog 139:=okx Tryz.func139
theorem Qcp:CallOk Tryz.prog 140:=okx Tryz.func140
theorem Qip:CallOk Tryz.prog 141:=okx Tryz.func141
theorem QbO:CallOk Tryz.prog 142:=okx Tryz.func142
theorem Qg1:CallOk Tryz.prog 143:=okx Tryz.func143
theorem Qnq:CallOk Tryz.prog 144:=okx Tryz.func144
theorem Qiz:CallOk Tryz.prog 145:=okx Tryz.func145
theorem QcM:CallOk Tryz.prog 146:=okx Tryz.func146
theorem Qhw:CallOk Tryz.prog 147:=okx Tryz.func147
theorem QcL:CallOk Tryz.prog 148:=okx Tryz.func148
theorem Qf2:CallOk Tryz.prog 149:=okx Tryz.func149
theorem Qft:CallOk Tryz.prog 150:=okx Tryz.func150
theorem Qci:CallOk Tryz.prog 151:=okx Tryz.func151
theorem Qao:CallOk Tryz.prog 152:=okx Tryz.func152
theorem Qmr:CallOk Tryz.prog 153:=okx Tryz.func153
theorem Qkm:CallOk Tryz.prog 154:=okx Tryz.func154
theorem Qe8:CallOk Tryz.prog 155:=okx Tryz.func155
theorem QgY:CallOk Tryz.prog 156:=okx Tryz.func156
theorem Qhx:CallOk Tryz.prog 157:=okx Tryz.func157
theorem QbC:CallOk Tryz.prog 158:=okx Tryz.func158
theorem Qgu:CallOk Tryz.prog 159:=okx Tryz.func159
theorem Qir:CallOk Tryz.prog 160:=okx Tryz.func160
theorem QhM:CallOk Tryz.prog 161:=okx Tryz.func161
theorem QhJ:CallOk Tryz.prog 162:=okx Tryz.func162
theorem QhN:CallOk Tryz.prog 163:=okx Tryz.func163
theorem Qcq:CallOk Tryz.prog 164:=okx Tryz.func164
theorem Qiu:CallOk Tryz.prog 165:=okx Tryz.func165
theorem Qr:CallOk Tryz.prog 166:=okx Tryz.func166
theorem QR:CallOk Tryz.prog 167:=okx Tryz.func167
theorem QjA:CallOk Tryz.prog 168:=okx Tryz.func168
theorem Q2:CallOk Tryz.prog 169:=okx Tryz.func169
theorem QcP:CallOk Tryz.prog 170:=okx Tryz.func170
theorem Qlj:CallOk Tryz.prog 185:=okx Tryz.func185
theorem QhL:CallOk Tryz.prog 186:=okx Tryz.func186
theorem Qck:CallOk Tryz.prog 188:=okx Tryz.func188
theorem QdI:CallOk Tryz.prog 189:=okx Tryz.func189
theorem Qkd:CallOk Tryz.prog 190:=okx Tryz.func190
theorem Qg0:CallOk Tryz.prog 191:=okx Tryz.func191
theorem QcN:CallOk Tryz.prog 192:=okx Tryz.func192
theorem Qgl:CallOk Tryz.prog 193:=okx Tryz.func193
theorem Qfy:CallOk Tryz.prog 194:=okx Tryz.func194
theorem Qdz:CallOk Tryz.prog 195:=okx Tryz.func195
theorem QcZ:CallOk Tryz.prog 196:=okx Tryz.func196
theorem QiX:CallOk Tryz.prog 197:=okx Tryz.func197
theorem Qjw:CallOk Tryz.prog 198:=okx Tryz.func198
theorem Qc8:CallOk Tryz.prog 199:=okx Tryz.func199
theorem Qcj:CallOk Tryz.prog 200:=okx Tryz.func200
theorem QbY:CallOk Tryz.prog 201:=okx Tryz.func201
theorem Qa6:CallOk Tryz.prog 202:=okx Tryz.func202
theorem Qmq:CallOk Tryz.prog 203:=okx Tryz.func203
theorem Qf0:CallOk Tryz.prog 204:=okx Tryz.func204
theorem QkW:CallOk Tryz.prog 205:=okx Tryz.func205
theorem Qg5:CallOk Tryz.prog 206:=okx Tryz.func206
theorem Qgv:CallOk Tryz.prog 207:=okx Tryz.func207
theorem Qfa:CallOk Tryz.prog 208:=okx Tryz.func208
theorem Qo9:CallOk Tryz.prog 209:=okx Tryz.func209
theorem QkX:CallOk Tryz.prog 210:=okx Tryz.func210
theorem Qkf:CallOk Tryz.prog 211:=okx Tryz.func211
theorem Qms:CallOk Tryz.prog 219:=okx Tryz.func219
theorem QhI:CallOk Tryz.prog 220:=okx Tryz.func220
theorem Qfs:CallOk Tryz.prog 221:=okx Tryz.func221
theorem Qev:CallOk Tryz.prog 222:=okx Tryz.func222
theorem Qi1:CallOk Tryz.prog 223:=okx Tryz.func223
theorem Qdy:CallOk Tryz.prog 224:=okx Tryz.func224
theorem Qkp:CallOk Tryz.prog 225:=okx Tryz.func225
theorem Qo8:CallOk Tryz.prog 226:=okx Tryz.func226
theorem QpH:CallOk Tryz.prog 227:=okx Tryz.func227
theorem Qn0:CallOk Tryz.prog 228:=okx Tryz.func228
theorem QdA:CallOk Tryz.prog 229:=okx Tryz.func229
theorem Qg3:CallOk Tryz.prog 230:=okx Tryz.func230
theorem Qns:CallOk Tryz.prog 231:=okx Tryz.func231
theorem Qnt:CallOk Tryz.prog 232:=okx Tryz.func232
theorem Qjt:CallOk Tryz.prog 233:=okx Tryz.func233
theorem Qkc:CallOk Tryz.prog 234:=okx Tryz.func234
theorem Qn2:CallOk Tryz.prog 235:=okx Tryz.func235
theorem Qiy:CallOk Tryz.prog 236:=okx Tryz.func236
theorem QbD:CallOk Tryz.prog 241:=okx Tryz.func241
theorem QfZ:CallOk Tryz.prog 243:=okx Tryz.func243
theorem QcK:CallOk Tryz.prog 244:=okx Tryz.func244
theorem Qkq:CallOk Tryz.prog 245:=okx Tryz.func245
theorem Qgw:CallOk Tryz.prog 246:=okx Tryz.func246
theorem Qjy:CallOk Tryz.prog 247:=okx Tryz.func247
theorem Qe7:CallOk Tryz.prog 248:=okx Tryz.func248
theorem Qnu:CallOk Tryz.prog 255:=okx Tryz.func255
theorem Qlq:CallOk Tryz.prog 256:=okx Tryz.func256
theorem Qju:CallOk Tryz.prog 261:=okx Tryz.func261
theorem Qnh:CallOk Tryz.prog 262:=okx Tryz.func262
theorem Qeh:CallOk Tryz.prog 268:=okx Tryz.func268
theorem Qin:CallOk Tryz.prog 269:=okx Tryz.func269
theorem QhD:CallOk Tryz.prog 270:=okx Tryz.func270
theorem Qim:CallOk Tryz.prog 271:=okx Tryz.func271
theorem QhC:CallOk Tryz.prog 272:=okx Tryz.func272
theorem QgZ:CallOk Tryz.prog 273:=okx Tryz.func273
theorem Qgk:CallOk Tryz.prog 274:=okx Tryz.func274
theorem Qf3:CallOk Tryz.prog 275:=okx Tryz.func275
theorem QcQ:CallOk Tryz.prog 278:=okx Tryz.func278
theorem QgV:ExtOk Tryz.prog 212 Extern.AbiNoEscape.same:=⟨⟨_,Tryz.func212,by kernel_rfl,by kernel_rfl,by kernel_rfl,by kernel_rfl⟩⟩
theorem QdG:ExtOk Tryz.prog 253 Extern.BytealgIndexByte.indexByte:=⟨⟨_,Tryz.func253,by kernel_rfl,by kernel_rfl,by kernel_rfl,by kernel_rfl⟩⟩
abbrev tyB:TypeId:=145
abbrev tyE:TypeId:=5
abbrev Bd (bs:Str):GO:=.bld tyB tyE bs
theorem Qhv (x:Qi):typedK [.str,.int .i64,.int .i64] (Qi.c x):=(And.intro trivial (And.intro rfl (And.intro rfl trivial)))
theorem kOk206:KOk Tryz.prog 206 kp3:=kTrip (by kernel_rfl)
def Qbs (C:Ctx) (p_l:Sl) (p_picks:Sl) (K:Bool→Heap→Prop) (H:Heap):Prop:=
 Spec Tryz.prog C 6 [slv p_l,slv p_picks] H (fun v H2=>∃ (r0:Bool),v=.bool r0∧K r0 H2)
def Qcn (C:Ctx) (p_l:Sl) (K:Qa→Qi→Int→Heap→Prop) (H:Heap):Prop:=
 Spec Tryz.prog C 12 [slv p_l] H (fun v H2=>∃ (r0:Qa) (r1:Qi) (r2:Int),v=.tuple #[.agg (Qa.c r0).toArray,.agg (Qi.c r1).toArray,.int .i64 r2]∧K r0 r1 r2 H2)
def QfL (C:Ctx) (K:Bool→Heap→Prop) (H:Heap):Prop:=
 Spec Tryz.prog C 13 [] H (fun v H2=>∃ (r0:Bool),v=.bool r0∧K r0 H2)
def Qic (C:Ctx) (p_l:Sl) (K:Bool→Heap→Prop) (H:Heap):Prop:=
 Spec Tryz.prog C 14 [slv p_l] H (fun v H2=>∃ (r0:Bool),v=.bool r0∧K r0 H2)
def QaG (C:Ctx) (p_a:Sl) (p_b:Sl) (K:Bool→Heap→Prop) (H:Heap):Prop:=
 Spec Tryz.prog C 18 [slv p_a,slv p_b] H (fun v H2=>∃ (r0:Bool),v=.bool r0∧K r0 H2)
theorem QaG.gh {C:Ctx} {p_a:Sl} {p_b:Sl} {K:Bool→Heap→Prop} {H:Heap} (h:QaG C p_a p_b (fun r0 H2=>∃ H0,Gh C H2 H0∧K r0 H0) H):QaG C p_a p_b K H:=ghm h
def QaP (C:Ctx) (p_a:Qj) (p_b:Qj) (K:Bool→Heap→Prop) (H:Heap):Prop:=
 Spec Tryz.prog C 19 [.agg (Qj.c p_a).toArray,.agg (Qj.c p_b).toArray] H (fun v H2=>∃ (r0:Bool),v=.bool r0∧K r0 H2)
theorem QaP.gh {C:Ctx} {p_a:Qj} {p_b:Qj} {K:Bool→Heap→Prop} {H:Heap} (h:QaP C p_a p_b (fun r0 H2=>∃ H0,Gh C H2 H0∧K r0 H0) H):QaP C p_a p_b K H:=ghm h
def Qb2 (C:Ctx) (p_m:Qa) (K:Int→Heap→Prop) (H:Heap):Prop:=
 Spec Tryz.prog C 20 [.agg (Qa.c p_m).toArray] H (fun v H2=>∃ (r0:Int),v=.int .i64 r0∧K r0 H2)
theorem Qb2.gh {C:Ctx} {p_m:Qa} {K:Int→Heap→Prop} {H:Heap} (h:Qb2 C p_m (fun r0 H2=>∃ H0,Gh C H2 H0∧K r0 H0) H):Qb2 C p_m K H:=ghm h
def Qb8 (C:Ctx) (E:Value→Heap→Prop) (p_p:Option (Nat×Nat)) (K:Heap→Prop) (H:Heap):Prop:=
 SpecP Tryz.prog C 22 [pv p_p] H (fun v H2=>v=.tuple #[]∧K H2) E
def QbS (C:Ctx) (E:Value→Heap→Prop) (p_p:Option (Nat×Nat)) (K:Heap→Prop) (H:Heap):Prop:=
 SpecP Tryz.prog C 23 [pv p_p] H (fun v H2=>v=.tuple #[]∧K H2) E
def QcG (C:Ctx) (E:Value→Heap→Prop) (p_p:Option (Nat×Nat)) (p_m:Qa) (K:Heap→Prop) (H:Heap):Prop:=
 SpecP Tryz.prog C 24 [pv p_p,.agg (Qa.c p_m).toArray] H (fun v H2=>v=.tuple #[]∧K H2) E
def Qb9 (C:Ctx) (E:Value→Heap→Prop) (p_p:Option (Nat×Nat)) (K:Heap→Prop) (H:Heap):Prop:=
 SpecP Tryz.prog C 25 [pv p_p] H (fun v H2=>v=.tuple #[]∧K H2) E
def Qc2 (C:Ctx) (E:Value→Heap→Prop) (p_p:Option (Nat×Nat)) (p_out:Option (Nat×Nat)) (p_m:Qa) (K:Heap→Prop) (H:Heap):Prop:=
 SpecP Tryz.prog C 26 [pv p_p,pv p_out,.agg (Qa.c p_m).toArray] H (fun v H2=>v=.tuple #[]∧K H2) E
def Qjh (C:Ctx) (p_m:Qa) (K:Str→Int→Heap→Prop) (H:Heap):Prop:=
 Spec Tryz.prog C 27 [.agg (Qa.c p_m).toArray] H (fun v H2=>∃ (r0:Str) (r1:Int),v=.tuple #[sv r0,.int .i64 r1]∧K r0 r1 H2)
def QaQ (C:Ctx) (p_a:Qd) (p_b:Qd) (K:Bool→Heap→Prop) (H:Heap):Prop:=
 Spec Tryz.prog C 35 [.agg (Qd.c p_a).toArray,.agg (Qd.c p_b).toArray] H (fun v H2=>∃ (r0:Bool),v=.bool r0∧K r0 H2)
theorem QaQ.gh {C:Ctx} {p_a:Qd} {p_b:Qd} {K:Bool→Heap→Prop} {H:Heap} (h:QaQ C p_a p_b (fun r0 H2=>∃ H0,Gh C H2 H0∧K r0 H0) H):QaQ C p_a p_b K H:=ghm h
def Q7 (C:Ctx) (p_a:Sl) (p_b:Sl) (K:Bool→Heap→Prop) (H:Heap):Prop:=
 Spec Tryz.prog C 36 [slv p_a,slv p_b] H (fun v H2=>∃ (r0:Bool),v=.bool r0∧K r0 H2)
theorem Q7.gh {C:Ctx} {p_a:Sl} {p_b:Sl} {K:Bool→Heap→Prop} {H:Heap} (h:Q7 C p_a p_b (fun r0 H2=>∃ H0,Gh C H2 H0∧K r0 H0) H):Q7 C p_a p_b K H:=ghm h
def QeU (C:Ctx) (p_a:Sl) (p_b:Sl) (K:Bool→Heap→Prop) (H:Heap):Prop:=
 Spec Tryz.prog C 37 [slv p_a,slv p_b] H (fun v H2=>∃ (r0:Bool),v=.bool r0∧K r0 H2)
def Qbe (C:Ctx) (p_a:Sl) (p_b:Sl) (K:Bool→Heap→Prop) (H:Heap):Prop:=
 Spec Tryz.prog C 38 [slv p_a,slv p_b] H (fun v H2=>∃ (r0:Bool),v=.bool r0∧K r0 H2)
theorem Qbe.gh {C:Ctx} {p_a:Sl} {p_b:Sl} {K:Bool→Heap→Prop} {H:Heap} (h:Qbe C p_a p_b (fun r0 H2=>∃ H0,Gh C H2 H0∧K r0 H0) H):Qbe C p_a p_b K H:=ghm h
def QdT (C:Ctx) (p_m:Qa) (K:Int→Heap→Prop) (H:Heap):Prop:=
 Spec Tryz.prog C 39 [.agg (Qa.c p_m).toArray] H (fun v H2=>∃ (r0:Int),v=.int .i64 r0∧K r0 H2)
theorem QdT.gh {C:Ctx} {p_m:Qa} {K:Int→Heap→Prop} {H:Heap} (h:QdT C p_m (fun r0 H2=>∃ H0,Gh C H2 H0∧K r0 H0) H):QdT C p_m K H:=ghm h
def Qa0 (C:Ctx) (p_s:Str) (K:Bool→Heap→Prop) (H:Heap):Prop:=
 Spec Tryz.prog C 40 [sv p_s] H (fun v H2=>∃ (r0:Bool),v=.bool r0∧K r0 H2)
def Qai (C:Ctx) (p_l:Sl) (p_is:Value) (K:Bool→Heap→Prop) (H:Heap):Prop:=
 Spec Tryz.prog C 41 [slv p_l,p_is] H (fun v H2=>∃ (r0:Bool),v=.bool r0∧K r0 H2)
theorem Qai.gh {C:Ctx} {p_l:Sl} {p_is:Value} {K:Bool→Heap→Prop} {H:Heap} (h:Qai C p_l p_is (fun r0 H2=>∃ H0,Gh C H2 H0∧K r0 H0) H):Qai C p_l p_is K H:=ghm h
def Qcv (C:Ctx) (p_x:Qp) (K:Bool→Heap→Prop) (H:Heap):Prop:=
 Spec Tryz.prog C 42 [.agg (Qp.c p_x).toArray] H (fun v H2=>∃ (r0:Bool),v=.bool r0∧K r0 H2)
theorem Qcv.gh {C:Ctx} {p_x:Qp} {K:Bool→Heap→Prop} {H:Heap} (h:Qcv C p_x (fun r0 H2=>∃ H0,Gh C H2 H0∧K r0 H0) H):Qcv C p_x K H:=ghm h
def Qac (C:Ctx) (p_l:Sl) (p_is:Value) (K:Bool→Heap→Prop) (H:Heap):Prop:=
 Spec Tryz.prog C 43 [slv p_l,p_is] H (fun v H2=>∃ (r0:Bool),v=.bool r0∧K r0 H2)
theorem Qac.gh {C:Ctx} {p_l:Sl} {p_is:Value} {K:Bool→Heap→Prop} {H:Heap} (h:Qac C p_l p_is (fun r0 H2=>∃ H0,Gh C H2 H0∧K r0 H0) H):Qac C p_l p_is K H:=ghm h
def QcC (C:Ctx) (p_t:Qc) (K:Bool→Heap→Prop) (H:Heap):Prop:=
 Spec Tryz.prog C 44 [.agg (Qc.c p_t).toArray] H (fun v H2=>∃ (r0:Bool),v=.bool r0∧K r0 H2)
theorem QcC.gh {C:Ctx} {p_t:Qc} {K:Bool→Heap→Prop} {H:Heap} (h:QcC C p_t (fun r0 H2=>∃ H0,Gh C H2 H0∧K r0 H0) H):QcC C p_t K H:=ghm h
def Qaj (C:Ctx) (p_l:Sl) (p_is:Value) (K:Bool→Heap→Prop) (H:Heap):Prop:=
 Spec Tryz.prog C 45 [slv p_l,p_is] H (fun v H2=>∃ (r0:Bool),v=.bool r0∧K r0 H2)
theorem Qaj.gh {C:Ctx} {p_l:Sl} {p_is:Value} {K:Bool→Heap→Prop} {H:Heap} (h:Qaj C p_l p_is (fun r0 H2=>∃ H0,Gh C H2 H0∧K r0 H0) H):Qaj C p_l p_is K H:=ghm h
def Qcw (C:Ctx) (p_x:Qh) (K:Bool→Heap→Prop) (H:Heap):Prop:=
 Spec Tryz.prog C 46 [.agg (Qh.c p_x).toArray] H (fun v H2=>∃ (r0:Bool),v=.bool r0∧K r0 H2)
theorem Qcw.gh {C:Ctx} {p_x:Qh} {K:Bool→Heap→Prop} {H:Heap} (h:Qcw C p_x (fun r0 H2=>∃ H0,Gh C H2 H0∧K r0 H0) H):Qcw C p_x K H:=ghm h
def QbA (C:Ctx) (p_l:Sl) (p_named:Bool) (K:Bool→Heap→Prop) (H:Heap):Prop:=
 Spec Tryz.prog C 47 [slv p_l,.bool p_named] H (fun v H2=>∃ (r0:Bool),v=.bool r0∧K r0 H2)
theorem QbA.gh {C:Ctx} {p_l:Sl} {p_named:Bool} {K:Bool→Heap→Prop} {H:Heap} (h:QbA C p_l p_named (fun r0 H2=>∃ H0,Gh C H2 H0∧K r0 H0) H):QbA C p_l p_named K H:=ghm h
def Qak (C:Ctx) (p_l:Sl) (p_is:Value) (K:Bool→Heap→Prop) (H:Heap):Prop:=
 Spec Tryz.prog C 48 [slv p_l,p_is] H (fun v H2=>∃ (r0:Bool),v=.bool r0∧K r0 H2)
theorem Qak.gh {C:Ctx} {p_l:Sl} {p_is:Value} {K:Bool→Heap→Prop} {H:Heap} (h:Qak C p_l p_is (fun r0 H2=>∃ H0,Gh C H2 H0∧K r0 H0) H):Qak C p_l p_is K H:=ghm h
def QeW (C:Ctx) (p_r:Qj) (K:Bool→Heap→Prop) (H:Heap):Prop:=
 Spec Tryz.prog C 49 [.agg (Qj.c p_r).toArray] H (fun v H2=>∃ (r0:Bool),v=.bool r0∧K r0 H2)
theorem QeW.gh {C:Ctx} {p_r:Qj} {K:Bool→Heap→Prop} {H:Heap} (h:QeW C p_r (fun r0 H2=>∃ H0,Gh C H2 H0∧K r0 H0) H):QeW C p_r K H:=ghm h
def Q8 (C:Ctx) (p_l:Sl) (p_is:Value) (K:Bool→Heap→Prop) (H:Heap):Prop:=
 Spec Tryz.prog C 50 [slv p_l,p_is] H (fun v H2=>∃ (r0:Bool),v=.bool r0∧K r0 H2)
theorem Q8.gh {C:Ctx} {p_l:Sl} {p_is:Value} {K:Bool→Heap→Prop} {H:Heap} (h:Q8 C p_l p_is (fun r0 H2=>∃ H0,Gh C H2 H0∧K r0 H0) H):Q8 C p_l p_is K H:=ghm h
def Qcx (C:Ctx) (p_x:Qm) (K:Bool→Heap→Prop) (H:Heap):Prop:=
 Spec Tryz.prog C 51 [.agg (Qm.c p_x).toArray] H (fun v H2=>∃ (r0:Bool),v=.bool r0∧K r0 H2)
theorem Qcx.gh {C:Ctx} {p_x:Qm} {K:Bool→Heap→Prop} {H:Heap} (h:Qcx C p_x (fun r0 H2=>∃ H0,Gh C H2 H0∧K r0 H0) H):Qcx C p_x K H:=ghm h
def QI (C:Ctx) (p_l:Sl) (p_is:Value) (K:Bool→Heap→Prop) (H:Heap):Prop:=
 Spec Tryz.prog C 52 [slv p_l,p_is] H (fun v H2=>∃ (r0:Bool),v=.bool r0∧K r0 H2)
theorem QI.gh {C:Ctx} {p_l:Sl} {p_is:Value} {K:Bool→Heap→Prop} {H:Heap} (h:QI C p_l p_is (fun r0 H2=>∃ H0,Gh C H2 H0∧K r0 H0) H):QI C p_l p_is K H:=ghm h
def QcA (C:Ctx) (p_x:Qk) (K:Bool→Heap→Prop) (H:Heap):Prop:=
 Spec Tryz.prog C 53 [.agg (Qk.c p_x).toArray] H (fun v H2=>∃ (r0:Bool),v=.bool r0∧K r0 H2)
theorem QcA.gh {C:Ctx} {p_x:Qk} {K:Bool→Heap→Prop} {H:Heap} (h:QcA C p_x (fun r0 H2=>∃ H0,Gh C H2 H0∧K r0 H0) H):QcA C p_x K H:=ghm h
def Qcy (C:Ctx) (p_x:Qj) (K:Bool→Heap→Prop) (H:Heap):Prop:=
 Spec Tryz.prog C 54 [.agg (Qj.c p_x).toArray] H (fun v H2=>∃ (r0:Bool),v=.bool r0∧K r0 H2)
theorem Qcy.gh {C:Ctx} {p_x:Qj} {K:Bool→Heap→Prop} {H:Heap} (h:Qcy C p_x (fun r0 H2=>∃ H0,Gh C H2 H0∧K r0 H0) H):Qcy C p_x K H:=ghm h
def Qcz (C:Ctx) (p_x:Qm) (K:Bool→Heap→Prop) (H:Heap):Prop:=
 Spec Tryz.prog C 55 [.agg (Qm.c p_x).toArray] H (fun v H2=>∃ (r0:Bool),v=.bool r0∧K r0 H2)
theorem Qcz.gh {C:Ctx} {p_x:Qm} {K:Bool→Heap→Prop} {H:Heap} (h:Qcz C p_x (fun r0 H2=>∃ H0,Gh C H2 H0∧K r0 H0) H):Qcz C p_x K H:=ghm h
def QG (C:Ctx) (E:Value→Heap→Prop) (p_m:Qa) (p_pos:Qo) (p_e:Int) (K:Heap→Prop) (H:Heap):Prop:=
 SpecP Tryz.prog C 56 [.agg (Qa.c p_m).toArray,.agg (Qo.c p_pos).toArray,.int .i64 p_e] H (fun v H2=>v=.tuple #[]∧K H2) E
def Qaw (C:Ctx) (p_p:Option (Nat×Nat)) (p_name:Str) (K:Int→Heap→Prop) (H:Heap):Prop:=
 Spec Tryz.prog C 57 [pv p_p,sv p_name] H (fun v H2=>∃ (r0:Int),v=.int .i64 r0∧K r0 H2)
def Qu (C:Ctx) (p_s:Sl) (p_f:Value) (K:Bool→Heap→Prop) (H:Heap):Prop:=
 Spec Tryz.prog C 58 [slv p_s,p_f] H (fun v H2=>∃ (r0:Bool),v=.bool r0∧K r0 H2)
def Qgh (C:Ctx) (p_y:Qp) (v0:Nat×Nat) (K:Bool→Heap→Prop) (H:Heap):Prop:=
 Spec Tryz.prog C 59 [.agg (Qp.c p_y).toArray,pv (some v0)] H (fun v H2=>∃ (r0:Bool),v=.bool r0∧K r0 H2)
def Qax (C:Ctx) (p_p:Option (Nat×Nat)) (p_from:Int) (p_to:Int) (p_seen:Option Nat) (K:Bool→Heap→Prop) (H:Heap):Prop:=
 Spec Tryz.prog C 60 [pv p_p,.int .i64 p_from,.int .i64 p_to,mv p_seen] H (fun v H2=>∃ (r0:Bool),v=.bool r0∧K r0 H2)
def Qay (C:Ctx) (p_p:Option (Nat×Nat)) (p_m:Qa) (p_own:Str) (p_kind:Int) (p_pub:Bool) (K:Bool→Heap→Prop) (H:Heap):Prop:=
 Spec Tryz.prog C 61 [pv p_p,.agg (Qa.c p_m).toArray,sv p_own,.int .i64 p_kind,.bool p_pub] H (fun v H2=>∃ (r0:Bool),v=.bool r0∧K r0 H2)
def Qw (C:Ctx) (p_s:Sl) (p_v:Str) (K:Bool→Heap→Prop) (H:Heap):Prop:=
 Spec Tryz.prog C 62 [slv p_s,sv p_v] H (fun v H2=>∃ (r0:Bool),v=.bool r0∧K r0 H2)
theorem Qw.gh {C:Ctx} {p_s:Sl} {p_v:Str} {K:Bool→Heap→Prop} {H:Heap} (h:Qw C p_s p_v (fun r0 H2=>∃ H0,Gh C H2 H0∧K r0 H0) H):Qw C p_s p_v K H:=ghm h
def QD (C:Ctx) (p_s:Sl) (p_f:Value) (K:Bool→Heap→Prop) (H:Heap):Prop:=
 Spec Tryz.prog C 63 [slv p_s,p_f] H (fun v H2=>∃ (r0:Bool),v=.bool r0∧K r0 H2)
def Qhr (C:Ctx) (p_c:Qg) (v0:Nat×Nat) (K:Bool→Heap→Prop) (H:Heap):Prop:=
 Spec Tryz.prog C 64 [.agg (Qg.c p_c).toArray,pv (some v0)] H (fun v H2=>∃ (r0:Bool),v=.bool r0∧K r0 H2)
def QfN (C:Ctx) (p_l:Sl) (p_params:Sl) (K:Bool→Heap→Prop) (H:Heap):Prop:=
 Spec Tryz.prog C 65 [slv p_l,slv p_params] H (fun v H2=>∃ (r0:Bool),v=.bool r0∧K r0 H2)
def QS (C:Ctx) (p_s:Sl) (K:Sl→Heap→Prop) (H:Heap):Prop:=
 Spec Tryz.prog C 66 [slv p_s] H (fun v H2=>∃ (r0:Sl),v=slv r0∧K r0 H2)
def QX (C:Ctx) (E:Value→Heap→Prop) (p_p:Option (Nat×Nat)) (p_m:Qa) (p_l:Sl) (p_pos:Qo) (K:Sl→Heap→Prop) (H:Heap):Prop:=
 SpecP Tryz.prog C 67 [pv p_p,.agg (Qa.c p_m).toArray,slv p_l,.agg (Qo.c p_pos).toArray] H (fun v H2=>∃ (r0:Sl),v=slv r0∧K r0 H2) E
def Qah (C:Ctx) (E:Value→Heap→Prop) (p_p:Option (Nat×Nat)) (p_m:Qa) (p_s:Str) (p_kind:Int) (p_pos:Qo) (K:Str→Heap→Prop) (H:Heap):Prop:=
 SpecP Tryz.prog C 68 [pv p_p,.agg (Qa.c p_m).toArray,sv p_s,.int .i64 p_kind,.agg (Qo.c p_pos).toArray] H (fun v H2=>∃ (r0:Str),v=sv r0∧K r0 H2) E
def Qca (C:Ctx) (p_s:Str) (p_prefix:Str) (K:Bool→Heap→Prop) (H:Heap):Prop:=
 Spec Tryz.prog C 69 [sv p_s,sv p_prefix] H (fun v H2=>∃ (r0:Bool),v=.bool r0∧K r0 H2)
def Qap (C:Ctx) (E:Value→Heap→Prop) (p_p:Option (Nat×Nat)) (p_m:Qa) (p_l:Sl) (K:Sl→Heap→Prop) (H:Heap):Prop:=
 SpecP Tryz.prog C 70 [pv p_p,.agg (Qa.c p_m).toArray,slv p_l] H (fun v H2=>∃ (r0:Sl),v=slv r0∧K r0 H2) E
def Qav (C:Ctx) (E:Value→Heap→Prop) (p_p:Option (Nat×Nat)) (p_m:Qa) (p_l:Sl) (K:Sl→Heap→Prop) (H:Heap):Prop:=
 SpecP Tryz.prog C 71 [pv p_p,.agg (Qa.c p_m).toArray,slv p_l] H (fun v H2=>∃ (r0:Sl),v=slv r0∧K r0 H2) E
def QA (C:Ctx) (p_w:Option (Nat×Nat)) (p_l:Sl) (K:Heap→Prop) (H:Heap):Prop:=
 Spec Tryz.prog C 72 [pv p_w,slv p_l] H (fun v H2=>v=.tuple #[]∧K H2)
def QcI (C:Ctx) (p_w:Option (Nat×Nat)) (p_l:Sl) (p_between:Str) (p_write:Value) (K:Heap→Prop) (H:Heap):Prop:=
 Spec Tryz.prog C 73 [pv p_w,slv p_l,sv p_between,p_write] H (fun v H2=>v=.tuple #[]∧K H2)
def Qkh (C:Ctx) (p_x:Qp) (v0:Nat×Nat) (K:Heap→Prop) (H:Heap):Prop:=
 Spec Tryz.prog C 74 [.agg (Qp.c p_x).toArray,pv (some v0)] H (fun v H2=>v=.tuple #[]∧K H2)
def Qcf (C:Ctx) (p_w:Option (Nat×Nat)) (p_l:Sl) (p_between:Str) (p_write:Value) (K:Heap→Prop) (H:Heap):Prop:=
 Spec Tryz.prog C 75 [pv p_w,slv p_l,sv p_between,p_write] H (fun v H2=>v=.tuple #[]∧K H2)
def Qe6 (C:Ctx) (p_w:Option (Nat×Nat)) (p_t:Qc) (K:Heap→Prop) (H:Heap):Prop:=
 Spec Tryz.prog C 76 [pv p_w,.agg (Qc.c p_t).toArray] H (fun v H2=>v=.tuple #[]∧K H2)
def QcJ (C:Ctx) (p_w:Option (Nat×Nat)) (p_l:Sl) (p_between:Str) (p_write:Value) (K:Heap→Prop) (H:Heap):Prop:=
 Spec Tryz.prog C 77 [pv p_w,slv p_l,sv p_between,p_write] H (fun v H2=>v=.tuple #[]∧K H2)
def Qfv (C:Ctx) (p_w:Option (Nat×Nat)) (p_x:Qh) (K:Heap→Prop) (H:Heap):Prop:=
 Spec Tryz.prog C 78 [pv p_w,.agg (Qh.c p_x).toArray] H (fun v H2=>v=.tuple #[]∧K H2)
def Qdv (C:Ctx) (p_w:Option (Nat×Nat)) (p_l:Sl) (p_between:Str) (p_write:Value) (K:Heap→Prop) (H:Heap):Prop:=
 Spec Tryz.prog C 79 [pv p_w,slv p_l,sv p_between,p_write] H (fun v H2=>v=.tuple #[]∧K H2)
def Qgr (C:Ctx) (p_w:Option (Nat×Nat)) (p_r:Qj) (K:Heap→Prop) (H:Heap):Prop:=
 Spec Tryz.prog C 80 [pv p_w,.agg (Qj.c p_r).toArray] H (fun v H2=>v=.tuple #[]∧K H2)
def Qc3 (C:Ctx) (p_w:Option (Nat×Nat)) (p_l:Sl) (p_between:Str) (p_write:Value) (K:Heap→Prop) (H:Heap):Prop:=
 Spec Tryz.prog C 81 [pv p_w,slv p_l,sv p_between,p_write] H (fun v H2=>v=.tuple #[]∧K H2)
def Qki (C:Ctx) (p_x:Qm) (v0:Nat×Nat) (K:Heap→Prop) (H:Heap):Prop:=
 Spec Tryz.prog C 82 [.agg (Qm.c p_x).toArray,pv (some v0)] H (fun v H2=>v=.tuple #[]∧K H2)
def QaK (C:Ctx) (p_w:Option (Nat×Nat)) (p_l:Sl) (p_between:Str) (p_write:Value) (K:Heap→Prop) (H:Heap):Prop:=
 Spec Tryz.prog C 83 [pv p_w,slv p_l,sv p_between,p_write] H (fun v H2=>v=.tuple #[]∧K H2)
def Qe5 (C:Ctx) (p_w:Option (Nat×Nat)) (p_x:Qk) (K:Heap→Prop) (H:Heap):Prop:=
 Spec Tryz.prog C 84 [pv p_w,.agg (Qk.c p_x).toArray] H (fun v H2=>v=.tuple #[]∧K H2)
def Ql (C:Ctx) (p_b:Option (Nat×Nat)) (p_s:Str) (K:Int→Value→Heap→Prop) (H:Heap):Prop:=
 Spec Tryz.prog C 85 [pv p_b,sv p_s] H (fun v H2=>∃ (r0:Int) (r1:Value),v=.tuple #[.int .i64 r0,r1]∧K r0 r1 H2)
theorem Ql.gh {C:Ctx} {p_b:Option (Nat×Nat)} {p_s:Str} {K:Int→Value→Heap→Prop} {H:Heap} (h:Ql C p_b p_s (fun r0 r1 H2=>∃ H0,Gh C H2 H0∧K r0 r1 H0) H):Ql C p_b p_s K H:=
 Spec.gh (Spec.mono h fun _ H2 ⟨r0,r1,hv,H0,hg,hk⟩=>⟨H0,hg,r0,r1,hv,hk⟩)
def QK (C:Ctx) (p_b:Option (Nat×Nat)) (K:Str→Heap→Prop) (H:Heap):Prop:=
 Spec Tryz.prog C 86 [pv p_b] H (fun v H2=>∃ (r0:Str),v=sv r0∧K r0 H2)
theorem QK.gh {C:Ctx} {p_b:Option (Nat×Nat)} {K:Str→Heap→Prop} {H:Heap} (h:QK C p_b (fun r0 H2=>∃ H0,Gh C H2 H0∧K r0 H0) H):QK C p_b K H:=ghm h
def QaO (C:Ctx) (p_a:Qb) (p_b:Qb) (K:Bool→Heap→Prop) (H:Heap):Prop:=
 Spec Tryz.prog C 103 [.agg (Qb.c p_a).toArray,.agg (Qb.c p_b).toArray] H (fun v H2=>∃ (r0:Bool),v=.bool r0∧K r0 H2)
theorem QaO.gh {C:Ctx} {p_a:Qb} {p_b:Qb} {K:Bool→Heap→Prop} {H:Heap} (h:QaO C p_a p_b (fun r0 H2=>∃ H0,Gh C H2 H0∧K r0 H0) H):QaO C p_a p_b K H:=ghm h
def QN (C:Ctx) (p_l:Sl) (p_depth:Value) (K:Int→Heap→Prop) (H:Heap):Prop:=
 Spec Tryz.prog C 104 [slv p_l,p_depth] H (fun v H2=>∃ (r0:Int),v=.int .i64 r0∧K r0 H2)
theorem QN.gh {C:Ctx} {p_l:Sl} {p_depth:Value} {K:Int→Heap→Prop} {H:Heap} (h:QN C p_l p_depth (fun r0 H2=>∃ H0,Gh C H2 H0∧K r0 H0) H):QN C p_l p_depth K H:=ghm h
def Qdi (C:Ctx) (p_t:Qc) (K:Int→Heap→Prop) (H:Heap):Prop:=
 Spec Tryz.prog C 105 [.agg (Qc.c p_t).toArray] H (fun v H2=>∃ (r0:Int),v=.int .i64 r0∧K r0 H2)
theorem Qdi.gh {C:Ctx} {p_t:Qc} {K:Int→Heap→Prop} {H:Heap} (h:Qdi C p_t (fun r0 H2=>∃ H0,Gh C H2 H0∧K r0 H0) H):Qdi C p_t K H:=ghm h
def QM (C:Ctx) (p_l:Sl) (p_depth:Value) (K:Int→Heap→Prop) (H:Heap):Prop:=
 Spec Tryz.prog C 106 [slv p_l,p_depth] H (fun v H2=>∃ (r0:Int),v=.int .i64 r0∧K r0 H2)
theorem QM.gh {C:Ctx} {p_l:Sl} {p_depth:Value} {K:Int→Heap→Prop} {H:Heap} (h:QM C p_l p_depth (fun r0 H2=>∃ H0,Gh C H2 H0∧K r0 H0) H):QM C p_l p_depth K H:=ghm h
def QbV (C:Ctx) (p_c:Qg) (K:Int→Heap→Prop) (H:Heap):Prop:=
 Spec Tryz.prog C 107 [.agg (Qg.c p_c).toArray] H (fun v H2=>∃ (r0:Int),v=.int .i64 r0∧K r0 H2)
theorem QbV.gh {C:Ctx} {p_c:Qg} {K:Int→Heap→Prop} {H:Heap} (h:QbV C p_c (fun r0 H2=>∃ H0,Gh C H2 H0∧K r0 H0) H):QbV C p_c K H:=ghm h
def Qx (C:Ctx) (p_l:Sl) (p_depth:Value) (K:Int→Heap→Prop) (H:Heap):Prop:=
 Spec Tryz.prog C 108 [slv p_l,p_depth] H (fun v H2=>∃ (r0:Int),v=.int .i64 r0∧K r0 H2)
theorem Qx.gh {C:Ctx} {p_l:Sl} {p_depth:Value} {K:Int→Heap→Prop} {H:Heap} (h:Qx C p_l p_depth (fun r0 H2=>∃ H0,Gh C H2 H0∧K r0 H0) H):Qx C p_l p_depth K H:=ghm h
def Qbr (C:Ctx) (p_f:Qf) (K:Int→Heap→Prop) (H:Heap):Prop:=
 Spec Tryz.prog C 109 [.agg (Qf.c p_f).toArray] H (fun v H2=>∃ (r0:Int),v=.int .i64 r0∧K r0 H2)
theorem Qbr.gh {C:Ctx} {p_f:Qf} {K:Int→Heap→Prop} {H:Heap} (h:Qbr C p_f (fun r0 H2=>∃ H0,Gh C H2 H0∧K r0 H0) H):Qbr C p_f K H:=ghm h
def QQ (C:Ctx) (p_l:Sl) (p_depth:Value) (K:Int→Heap→Prop) (H:Heap):Prop:=
 Spec Tryz.prog C 110 [slv p_l,p_depth] H (fun v H2=>∃ (r0:Int),v=.int .i64 r0∧K r0 H2)
theorem QQ.gh {C:Ctx} {p_l:Sl} {p_depth:Value} {K:Int→Heap→Prop} {H:Heap} (h:QQ C p_l p_depth (fun r0 H2=>∃ H0,Gh C H2 H0∧K r0 H0) H):QQ C p_l p_depth K H:=ghm h
def Qdj (C:Ctx) (p_x:Qh) (K:Int→Heap→Prop) (H:Heap):Prop:=
 Spec Tryz.prog C 111 [.agg (Qh.c p_x).toArray] H (fun v H2=>∃ (r0:Int),v=.int .i64 r0∧K r0 H2)
theorem Qdj.gh {C:Ctx} {p_x:Qh} {K:Int→Heap→Prop} {H:Heap} (h:Qdj C p_x (fun r0 H2=>∃ H0,Gh C H2 H0∧K r0 H0) H):Qdj C p_x K H:=ghm h
def Q0 (C:Ctx) (p_l:Sl) (p_depth:Value) (K:Int→Heap→Prop) (H:Heap):Prop:=
 Spec Tryz.prog C 112 [slv p_l,p_depth] H (fun v H2=>∃ (r0:Int),v=.int .i64 r0∧K r0 H2)
theorem Q0.gh {C:Ctx} {p_l:Sl} {p_depth:Value} {K:Int→Heap→Prop} {H:Heap} (h:Q0 C p_l p_depth (fun r0 H2=>∃ H0,Gh C H2 H0∧K r0 H0) H):Q0 C p_l p_depth K H:=ghm h
def Qdk (C:Ctx) (p_x:Qj) (K:Int→Heap→Prop) (H:Heap):Prop:=
 Spec Tryz.prog C 113 [.agg (Qj.c p_x).toArray] H (fun v H2=>∃ (r0:Int),v=.int .i64 r0∧K r0 H2)
theorem Qdk.gh {C:Ctx} {p_x:Qj} {K:Int→Heap→Prop} {H:Heap} (h:Qdk C p_x (fun r0 H2=>∃ H0,Gh C H2 H0∧K r0 H0) H):Qdk C p_x K H:=ghm h
def QC (C:Ctx) (p_l:Sl) (p_depth:Value) (K:Int→Heap→Prop) (H:Heap):Prop:=
 Spec Tryz.prog C 114 [slv p_l,p_depth] H (fun v H2=>∃ (r0:Int),v=.int .i64 r0∧K r0 H2)
theorem QC.gh {C:Ctx} {p_l:Sl} {p_depth:Value} {K:Int→Heap→Prop} {H:Heap} (h:QC C p_l p_depth (fun r0 H2=>∃ H0,Gh C H2 H0∧K r0 H0) H):QC C p_l p_depth K H:=ghm h
def QdW (C:Ctx) (p_e:Qb) (K:Int→Heap→Prop) (H:Heap):Prop:=
 Spec Tryz.prog C 115 [.agg (Qb.c p_e).toArray] H (fun v H2=>∃ (r0:Int),v=.int .i64 r0∧K r0 H2)
theorem QdW.gh {C:Ctx} {p_e:Qb} {K:Int→Heap→Prop} {H:Heap} (h:QdW C p_e (fun r0 H2=>∃ H0,Gh C H2 H0∧K r0 H0) H):QdW C p_e K H:=ghm h
def Qz (C:Ctx) (p_l:Sl) (p_depth:Value) (K:Int→Heap→Prop) (H:Heap):Prop:=
 Spec Tryz.prog C 116 [slv p_l,p_depth] H (fun v H2=>∃ (r0:Int),v=.int .i64 r0∧K r0 H2)
theorem Qz.gh {C:Ctx} {p_l:Sl} {p_depth:Value} {K:Int→Heap→Prop} {H:Heap} (h:Qz C p_l p_depth (fun r0 H2=>∃ H0,Gh C H2 H0∧K r0 H0) H):Qz C p_l p_depth K H:=ghm h
def QaZ (C:Ctx) (p_x:Qk) (K:Int→Heap→Prop) (H:Heap):Prop:=
 Spec Tryz.prog C 117 [.agg (Qk.c p_x).toArray] H (fun v H2=>∃ (r0:Int),v=.int .i64 r0∧K r0 H2)
theorem QaZ.gh {C:Ctx} {p_x:Qk} {K:Int→Heap→Prop} {H:Heap} (h:QaZ C p_x (fun r0 H2=>∃ H0,Gh C H2 H0∧K r0 H0) H):QaZ C p_x K H:=ghm h
def QU (C:Ctx) (p_l:Sl) (p_depth:Value) (K:Int→Heap→Prop) (H:Heap):Prop:=
 Spec Tryz.prog C 118 [slv p_l,p_depth] H (fun v H2=>∃ (r0:Int),v=.int .i64 r0∧K r0 H2)
theorem QU.gh {C:Ctx} {p_l:Sl} {p_depth:Value} {K:Int→Heap→Prop} {H:Heap} (h:QU C p_l p_depth (fun r0 H2=>∃ H0,Gh C H2 H0∧K r0 H0) H):QU C p_l p_depth K H:=ghm h
def Qdl (C:Ctx) (p_x:Qm) (K:Int→Heap→Prop) (H:Heap):Prop:=
 Spec Tryz.prog C 119 [.agg (Qm.c p_x).toArray] H (fun v H2=>∃ (r0:Int),v=.int .i64 r0∧K r0 H2)
theorem Qdl.gh {C:Ctx} {p_x:Qm} {K:Int→Heap→Prop} {H:Heap} (h:Qdl C p_x (fun r0 H2=>∃ H0,Gh C H2 H0∧K r0 H0) H):Qdl C p_x K H:=ghm h
def Qii (C:Ctx) (p_s:Str) (K:Bool→Heap→Prop) (H:Heap):Prop:=
 Spec Tryz.prog C 120 [sv p_s] H (fun v H2=>∃ (r0:Bool),v=.bool r0∧K r0 H2)
def Qgp (C:Ctx) (p_s:Str) (p_substr:Str) (K:Bool→Heap→Prop) (H:Heap):Prop:=
 Spec Tryz.prog C 121 [sv p_s,sv p_substr] H (fun v H2=>∃ (r0:Bool),v=.bool r0∧K r0 H2)
def Qig (C:Ctx) (p_x:Qp) (v0:Nat×Nat) (K:Bool→Heap→Prop) (H:Heap):Prop:=
 Spec Tryz.prog C 122 [.agg (Qp.c p_x).toArray,pv (some v0)] H (fun v H2=>∃ (r0:Bool),v=.bool r0∧K r0 H2)
def QaA (C:Ctx) (p_s:Sl) (p_f:Value) (K:Bool→Heap→Prop) (H:Heap):Prop:=
 Spec Tryz.prog C 123 [slv p_s,p_f] H (fun v H2=>∃ (r0:Bool),v=.bool r0∧K r0 H2)
def Qhu (C:Ctx) (p_x:Qc) (v0:Nat×Nat) (K:Bool→Heap→Prop) (H:Heap):Prop:=
 Spec Tryz.prog C 124 [.agg (Qc.c p_x).toArray,pv (some v0)] H (fun v H2=>∃ (r0:Bool),v=.bool r0∧K r0 H2)
def QaB (C:Ctx) (p_l:Sl) (p_is:Value) (K:Bool→Heap→Prop) (H:Heap):Prop:=
 Spec Tryz.prog C 125 [slv p_l,p_is] H (fun v H2=>∃ (r0:Bool),v=.bool r0∧K r0 H2)
theorem QaB.gh {C:Ctx} {p_l:Sl} {p_is:Value} {K:Bool→Heap→Prop} {H:Heap} (h:QaB C p_l p_is (fun r0 H2=>∃ H0,Gh C H2 H0∧K r0 H0) H):QaB C p_l p_is K H:=ghm h
def Qjm (C:Ctx) (p_s:Str) (K:Bool→Heap→Prop) (H:Heap):Prop:=
 Spec Tryz.prog C 126 [sv p_s] H (fun v H2=>∃ (r0:Bool),v=.bool r0∧K r0 H2)
def Qab (C:Ctx) (p_l:Sl) (p_is:Value) (K:Bool→Heap→Prop) (H:Heap):Prop:=
 Spec Tryz.prog C 127 [slv p_l,p_is] H (fun v H2=>∃ (r0:Bool),v=.bool r0∧K r0 H2)
theorem Qab.gh {C:Ctx} {p_l:Sl} {p_is:Value} {K:Bool→Heap→Prop} {H:Heap} (h:Qab C p_l p_is (fun r0 H2=>∃ H0,Gh C H2 H0∧K r0 H0) H):Qab C p_l p_is K H:=ghm h
def Qby (C:Ctx) (p_c:Qg) (K:Bool→Heap→Prop) (H:Heap):Prop:=
 Spec Tryz.prog C 128 [.agg (Qg.c p_c).toArray] H (fun v H2=>∃ (r0:Bool),v=.bool r0∧K r0 H2)
theorem Qby.gh {C:Ctx} {p_c:Qg} {K:Bool→Heap→Prop} {H:Heap} (h:Qby C p_c (fun r0 H2=>∃ H0,Gh C H2 H0∧K r0 H0) H):Qby C p_c K H:=ghm h
def QaH (C:Ctx) (p_s:Sl) (p_f:Value) (K:Bool→Heap→Prop) (H:Heap):Prop:=
 Spec Tryz.prog C 129 [slv p_s,p_f] H (fun v H2=>∃ (r0:Bool),v=.bool r0∧K r0 H2)
def Qih (C:Ctx) (p_x:Qh) (v0:Nat×Nat) (K:Bool→Heap→Prop) (H:Heap):Prop:=
 Spec Tryz.prog C 130 [.agg (Qh.c p_x).toArray,pv (some v0)] H (fun v H2=>∃ (r0:Bool),v=.bool r0∧K r0 H2)
def QY (C:Ctx) (p_l:Sl) (p_is:Value) (K:Bool→Heap→Prop) (H:Heap):Prop:=
 Spec Tryz.prog C 131 [slv p_l,p_is] H (fun v H2=>∃ (r0:Bool),v=.bool r0∧K r0 H2)
theorem QY.gh {C:Ctx} {p_l:Sl} {p_is:Value} {K:Bool→Heap→Prop} {H:Heap} (h:QY C p_l p_is (fun r0 H2=>∃ H0,Gh C H2 H0∧K r0 H0) H):QY C p_l p_is K H:=ghm h
def QbW (C:Ctx) (p_f:Qf) (v0:Nat×Nat) (K:Bool→Heap→Prop) (H:Heap):Prop:=
 Spec Tryz.prog C 132 [.agg (Qf.c p_f).toArray,pv (some v0)] H (fun v H2=>∃ (r0:Bool),v=.bool r0∧K r0 H2)
theorem QbW.gh {C:Ctx} {p_f:Qf} {v0:Nat×Nat} {K:Bool→Heap→Prop} {H:Heap} (h:QbW C p_f v0 (fun r0 H2=>∃ H0,Gh C H2 H0∧K r0 H0) H):QbW C p_f v0 K H:=ghm h
def Qc4 (C:Ctx) (p_t:Qd) (K:Bool→Heap→Prop) (H:Heap):Prop:=
 Spec Tryz.prog C 133 [.agg (Qd.c p_t).toArray] H (fun v H2=>∃ (r0:Bool),v=.bool r0∧K r0 H2)
theorem Qc4.gh {C:Ctx} {p_t:Qd} {K:Bool→Heap→Prop} {H:Heap} (h:Qc4 C p_t (fun r0 H2=>∃ H0,Gh C H2 H0∧K r0 H0) H):Qc4 C p_t K H:=ghm h
def Qba (C:Ctx) (p_s:Sl) (p_f:Value) (K:Bool→Heap→Prop) (H:Heap):Prop:=
 Spec Tryz.prog C 134 [slv p_s,p_f] H (fun v H2=>∃ (r0:Bool),v=.bool r0∧K r0 H2)
def Qjj (C:Ctx) (p_x:Qj) (v0:Nat×Nat) (K:Bool→Heap→Prop) (H:Heap):Prop:=
 Spec Tryz.prog C 135 [.agg (Qj.c p_x).toArray,pv (some v0)] H (fun v H2=>∃ (r0:Bool),v=.bool r0∧K r0 H2)
def QeV (C:Ctx) (p_s:Str) (K:Bool→Heap→Prop) (H:Heap):Prop:=
 Spec Tryz.prog C 136 [sv p_s] H (fun v H2=>∃ (r0:Bool),v=.bool r0∧K r0 H2)
def QH (C:Ctx) (p_l:Sl) (p_is:Value) (K:Bool→Heap→Prop) (H:Heap):Prop:=
 Spec Tryz.prog C 137 [slv p_l,p_is] H (fun v H2=>∃ (r0:Bool),v=.bool r0∧K r0 H2)
theorem QH.gh {C:Ctx} {p_l:Sl} {p_is:Value} {K:Bool→Heap→Prop} {H:Heap} (h:QH C p_l p_is (fun r0 H2=>∃ H0,Gh C H2 H0∧K r0 H0) H):QH C p_l p_is K H:=ghm h
def Qcc (C:Ctx) (p_e:Qb) (K:Bool→Heap→Prop) (H:Heap):Prop:=
 Spec Tryz.prog C 138 [.agg (Qb.c p_e).toArray] H (fun v H2=>∃ (r0:Bool),v=.bool r0∧K r0 H2)
theorem Qcc.gh {C:Ctx} {p_e:Qb} {K:Bool→Heap→Prop} {H:Heap} (h:Qcc C p_e (fun r0 H2=>∃ H0,Gh C H2 H0∧K r0 H0) H):Qcc C p_e K H:=ghm h
def Qk8 (C:Ctx) (p_s:Str) (K:Bool→Heap→Prop) (H:Heap):Prop:=
 Spec Tryz.prog C 139 [sv p_s] H (fun v H2=>∃ (r0:Bool),v=.bool r0∧K r0 H2)
def QaW (C:Ctx) (p_s:Sl) (p_f:Value) (K:Bool→Heap→Prop) (H:Heap):Prop:=
 Spec Tryz.prog C 140 [slv p_s,p_f] H (fun v H2=>∃ (r0:Bool),v=.bool r0∧K r0 H2)
def QiV (C:Ctx) (p_x:Qm) (v0:Nat×Nat) (K:Bool→Heap→Prop) (H:Heap):Prop:=
 Spec Tryz.prog C 141 [.agg (Qm.c p_x).toArray,pv (some v0)] H (fun v H2=>∃ (r0:Bool),v=.bool r0∧K r0 H2)
def Qaz (C:Ctx) (p_s:Sl) (p_f:Value) (K:Bool→Heap→Prop) (H:Heap):Prop:=
 Spec Tryz.prog C 142 [slv p_s,p_f] H (fun v H2=>∃ (r0:Bool),v=.bool r0∧K r0 H2)
def Qht (C:Ctx) (p_x:Qk) (v0:Nat×Nat) (K:Bool→Heap→Prop) (H:Heap):Prop:=
 Spec Tryz.prog C 143 [.agg (Qk.c p_x).toArray,pv (some v0)] H (fun v H2=>∃ (r0:Bool),v=.bool r0∧K r0 H2)
def QcB (C:Ctx) (p_e:Qb) (K:Bool→Heap→Prop) (H:Heap):Prop:=
 Spec Tryz.prog C 144 [.agg (Qb.c p_e).toArray] H (fun v H2=>∃ (r0:Bool),v=.bool r0∧K r0 H2)
theorem QcB.gh {C:Ctx} {p_e:Qb} {K:Bool→Heap→Prop} {H:Heap} (h:QcB C p_e (fun r0 H2=>∃ H0,Gh C H2 H0∧K r0 H0) H):QcB C p_e K H:=ghm h
def Qep (C:Ctx) (p_s:Str) (K:Bool→Heap→Prop) (H:Heap):Prop:=
 Spec Tryz.prog C 145 [sv p_s] H (fun v H2=>∃ (r0:Bool),v=.bool r0∧K r0 H2)
def Qa4 (C:Ctx) (p_s:Sl) (p_f:Value) (K:Int→Heap→Prop) (H:Heap):Prop:=
 Spec Tryz.prog C 146 [slv p_s,p_f] H (fun v H2=>∃ (r0:Int),v=.int .i64 r0∧K r0 H2)
def Qid (C:Ctx) (p_m:Qa) (v0:Nat×Nat) (K:Bool→Heap→Prop) (H:Heap):Prop:=
 Spec Tryz.prog C 147 [.agg (Qa.c p_m).toArray,pv (some v0)] H (fun v H2=>∃ (r0:Bool),v=.bool r0∧K r0 H2)
def Qa3 (C:Ctx) (p_s:Sl) (p_f:Value) (K:Int→Heap→Prop) (H:Heap):Prop:=
 Spec Tryz.prog C 148 [slv p_s,p_f] H (fun v H2=>∃ (r0:Int),v=.int .i64 r0∧K r0 H2)
def Qgi (C:Ctx) (p_x:Qp) (v0:Nat×Nat) (v1:Nat×Nat) (v2:Nat×Nat) (K:Bool→Heap→Prop) (H:Heap):Prop:=
 Spec Tryz.prog C 149 [.agg (Qp.c p_x).toArray,pv (some v0),pv (some v1),pv (some v2)] H (fun v H2=>∃ (r0:Bool),v=.bool r0∧K r0 H2)
def QcO (C:Ctx) (p_s:Sl) (p_v:Str) (K:Int→Heap→Prop) (H:Heap):Prop:=
 Spec Tryz.prog C 150 [slv p_s,sv p_v] H (fun v H2=>∃ (r0:Int),v=.int .i64 r0∧K r0 H2)
def QaR (C:Ctx) (p_s:Sl) (p_f:Value) (K:Int→Heap→Prop) (H:Heap):Prop:=
 Spec Tryz.prog C 151 [slv p_s,p_f] H (fun v H2=>∃ (r0:Int),v=.int .i64 r0∧K r0 H2)
def QB (C:Ctx) (p_s:Sl) (p_f:Value) (K:Bool→Heap→Prop) (H:Heap):Prop:=
 Spec Tryz.prog C 152 [slv p_s,p_f] H (fun v H2=>∃ (r0:Bool),v=.bool r0∧K r0 H2)
def QmT (C:Ctx) (p_f:Qf) (v0:Nat×Nat) (K:Bool→Heap→Prop) (H:Heap):Prop:=
 Spec Tryz.prog C 153 [.agg (Qf.c p_f).toArray,pv (some v0)] H (fun v H2=>∃ (r0:Bool),v=.bool r0∧K r0 H2)
def QfM (C:Ctx) (p_t:Qd) (p_params:Sl) (K:Bool→Heap→Prop) (H:Heap):Prop:=
 Spec Tryz.prog C 154 [.agg (Qd.c p_t).toArray,slv p_params] H (fun v H2=>∃ (r0:Bool),v=.bool r0∧K r0 H2)
def QbQ (C:Ctx) (E:Value→Heap→Prop) (p_p:Option (Nat×Nat)) (p_m:Qa) (p_t:Qd) (p_pos:Qo) (K:Qd→Heap→Prop) (H:Heap):Prop:=
 SpecP Tryz.prog C 155 [pv p_p,.agg (Qa.c p_m).toArray,.agg (Qd.c p_t).toArray,.agg (Qo.c p_pos).toArray] H (fun v H2=>∃ (r0:Qd),v=.agg (Qd.c r0).toArray∧K r0 H2) E
def Qen (C:Ctx) (p_s:Str) (p_sep:Str) (K:Str→Str→Bool→Heap→Prop) (H:Heap):Prop:=
 Spec Tryz.prog C 156 [sv p_s,sv p_sep] H (fun v H2=>∃ (r0:Str) (r1:Str) (r2:Bool),v=.tuple #[sv r0,sv r1,.bool r2]∧K r0 r1 r2 H2)
def Qie (C:Ctx) (p_x:Qp) (v0:Nat×Nat) (K:Bool→Heap→Prop) (H:Heap):Prop:=
 Spec Tryz.prog C 157 [.agg (Qp.c p_x).toArray,pv (some v0)] H (fun v H2=>∃ (r0:Bool),v=.bool r0∧K r0 H2)
def Qag (C:Ctx) (p_s:Str) (p_prefix:Str) (K:Bool→Heap→Prop) (H:Heap):Prop:=
 Spec Tryz.prog C 158 [sv p_s,sv p_prefix] H (fun v H2=>∃ (r0:Bool),v=.bool r0∧K r0 H2)
def Qdn (C:Ctx) (p_w:Option (Nat×Nat)) (p_is:Bool) (K:Heap→Prop) (H:Heap):Prop:=
 Spec Tryz.prog C 159 [pv p_w,.bool p_is] H (fun v H2=>v=.tuple #[]∧K H2)
def QcH (C:Ctx) (p_w:Option (Nat×Nat)) (p_l:Sl) (p_write:Value) (K:Heap→Prop) (H:Heap):Prop:=
 Spec Tryz.prog C 160 [pv p_w,slv p_l,p_write] H (fun v H2=>v=.tuple #[]∧K H2)
def Qer (C:Ctx) (p_s:Str) (v0:Nat×Nat) (K:Heap→Prop) (H:Heap):Prop:=
 Spec Tryz.prog C 161 [sv p_s,pv (some v0)] H (fun v H2=>v=.tuple #[]∧K H2)
def Qce (C:Ctx) (p_w:Option (Nat×Nat)) (p_l:Sl) (p_between:Str) (p_write:Value) (K:Heap→Prop) (H:Heap):Prop:=
 Spec Tryz.prog C 162 [pv p_w,slv p_l,sv p_between,p_write] H (fun v H2=>v=.tuple #[]∧K H2)
def Qes (C:Ctx) (p_c:Qg) (v0:Nat×Nat) (K:Heap→Prop) (H:Heap):Prop:=
 Spec Tryz.prog C 163 [.agg (Qg.c p_c).toArray,pv (some v0)] H (fun v H2=>v=.tuple #[]∧K H2)
def Qad (C:Ctx) (p_w:Option (Nat×Nat)) (p_l:Sl) (p_write:Value) (K:Heap→Prop) (H:Heap):Prop:=
 Spec Tryz.prog C 164 [pv p_w,slv p_l,p_write] H (fun v H2=>v=.tuple #[]∧K H2)
def QeI (C:Ctx) (p_w:Option (Nat×Nat)) (p_f:Qf) (K:Heap→Prop) (H:Heap):Prop:=
 Spec Tryz.prog C 165 [pv p_w,.agg (Qf.c p_f).toArray] H (fun v H2=>v=.tuple #[]∧K H2)
def Qq (C:Ctx) (p_b:Option (Nat×Nat)) (p_c:Int) (K:Value→Heap→Prop) (H:Heap):Prop:=
 Spec Tryz.prog C 166 [pv p_b,.int .u8 p_c] H (fun v H2=>∃ (r0:Value),v=r0∧K r0 H2)
theorem Qq.gh {C:Ctx} {p_b:Option (Nat×Nat)} {p_c:Int} {K:Value→Heap→Prop} {H:Heap} (h:Qq C p_b p_c (fun r0 H2=>∃ H0,Gh C H2 H0∧K r0 H0) H):Qq C p_b p_c K H:=ghm h
def Qy (C:Ctx) (p_w:Option (Nat×Nat)) (p_l:Sl) (p_write:Value) (K:Heap→Prop) (H:Heap):Prop:=
 Spec Tryz.prog C 167 [pv p_w,slv p_l,p_write] H (fun v H2=>v=.tuple #[]∧K H2)
def Qdx (C:Ctx) (p_e:Qb) (v0:Nat×Nat) (v1:Nat×Nat) (v2:Nat×Nat) (K:Heap→Prop) (H:Heap):Prop:=
 Spec Tryz.prog C 168 [.agg (Qb.c p_e).toArray,pv (some v0),pv (some v1),pv (some v2)] H (fun v H2=>v=.tuple #[]∧K H2)
def Qae (C:Ctx) (p_w:Option (Nat×Nat)) (p_e:Qb) (K:Heap→Prop) (H:Heap):Prop:=
 Spec Tryz.prog C 169 [pv p_w,.agg (Qb.c p_e).toArray] H (fun v H2=>v=.tuple #[]∧K H2)
def QaI (C:Ctx) (p_b:Option (Nat×Nat)) (K:Heap→Prop) (H:Heap):Prop:=
 Spec Tryz.prog C 170 [pv p_b] H (fun v H2=>v=.tuple #[]∧K H2)
def Qbm (C:Ctx) (p_a:Qe) (p_b:Qe) (K:Bool→Heap→Prop) (H:Heap):Prop:=
 Spec Tryz.prog C 185 [.agg (Qe.c p_a).toArray,.agg (Qe.c p_b).toArray] H (fun v H2=>∃ (r0:Bool),v=.bool r0∧K r0 H2)
theorem Qbm.gh {C:Ctx} {p_a:Qe} {p_b:Qe} {K:Bool→Heap→Prop} {H:Heap} (h:Qbm C p_a p_b (fun r0 H2=>∃ H0,Gh C H2 H0∧K r0 H0) H):Qbm C p_a p_b K H:=ghm h
def Qbf (C:Ctx) (p_t:Qd) (K:Int→Heap→Prop) (H:Heap):Prop:=
 Spec Tryz.prog C 186 [.agg (Qd.c p_t).toArray] H (fun v H2=>∃ (r0:Int),v=.int .i64 r0∧K r0 H2)
theorem Qbf.gh {C:Ctx} {p_t:Qd} {K:Int→Heap→Prop} {H:Heap} (h:Qbf C p_t (fun r0 H2=>∃ H0,Gh C H2 H0∧K r0 H0) H):Qbf C p_t K H:=ghm h
def QaT (C:Ctx) (p_s:Sl) (p_f:Value) (K:Int→Heap→Prop) (H:Heap):Prop:=
 Spec Tryz.prog C 188 [slv p_s,p_f] H (fun v H2=>∃ (r0:Int),v=.int .i64 r0∧K r0 H2)
def Qbt (C:Ctx) (p_s:Sl) (p_f:Value) (K:Bool→Heap→Prop) (H:Heap):Prop:=
 Spec Tryz.prog C 189 [slv p_s,p_f] H (fun v H2=>∃ (r0:Bool),v=.bool r0∧K r0 H2)
def QfW (C:Ctx) (p_x:Str) (v0:Nat×Nat) (K:Bool→Heap→Prop) (H:Heap):Prop:=
 Spec Tryz.prog C 190 [sv p_x,pv (some v0)] H (fun v H2=>∃ (r0:Bool),v=.bool r0∧K r0 H2)
def Qhs (C:Ctx) (p_x:Qg) (v0:Nat×Nat) (K:Bool→Heap→Prop) (H:Heap):Prop:=
 Spec Tryz.prog C 191 [.agg (Qg.c p_x).toArray,pv (some v0)] H (fun v H2=>∃ (r0:Bool),v=.bool r0∧K r0 H2)
def Qa5 (C:Ctx) (p_s:Sl) (p_f:Value) (K:Int→Heap→Prop) (H:Heap):Prop:=
 Spec Tryz.prog C 192 [slv p_s,p_f] H (fun v H2=>∃ (r0:Int),v=.int .i64 r0∧K r0 H2)
def QgS (C:Ctx) (p_x:Qf) (v0:Nat×Nat) (K:Bool→Heap→Prop) (H:Heap):Prop:=
 Spec Tryz.prog C 193 [.agg (Qf.c p_x).toArray,pv (some v0)] H (fun v H2=>∃ (r0:Bool),v=.bool r0∧K r0 H2)
def QZ (C:Ctx) (p_l:Sl) (p_is:Value) (K:Bool→Heap→Prop) (H:Heap):Prop:=
 Spec Tryz.prog C 194 [slv p_l,p_is] H (fun v H2=>∃ (r0:Bool),v=.bool r0∧K r0 H2)
theorem QZ.gh {C:Ctx} {p_l:Sl} {p_is:Value} {K:Bool→Heap→Prop} {H:Heap} (h:QZ C p_l p_is (fun r0 H2=>∃ H0,Gh C H2 H0∧K r0 H0) H):QZ C p_l p_is K H:=ghm h
def Qbo (C:Ctx) (p_s:Sl) (p_f:Value) (K:Int→Heap→Prop) (H:Heap):Prop:=
 Spec Tryz.prog C 195 [slv p_s,p_f] H (fun v H2=>∃ (r0:Int),v=.int .i64 r0∧K r0 H2)
def Qa9 (C:Ctx) (p_s:Sl) (p_f:Value) (K:Bool→Heap→Prop) (H:Heap):Prop:=
 Spec Tryz.prog C 196 [slv p_s,p_f] H (fun v H2=>∃ (r0:Bool),v=.bool r0∧K r0 H2)
def Qji (C:Ctx) (p_x:Qb) (v0:Nat×Nat) (K:Bool→Heap→Prop) (H:Heap):Prop:=
 Spec Tryz.prog C 197 [.agg (Qb.c p_x).toArray,pv (some v0)] H (fun v H2=>∃ (r0:Bool),v=.bool r0∧K r0 H2)
def Qcd (C:Ctx) (p_e:Qb) (p_pattern:Bool) (K:Bool→Heap→Prop) (H:Heap):Prop:=
 Spec Tryz.prog C 198 [.agg (Qb.c p_e).toArray,.bool p_pattern] H (fun v H2=>∃ (r0:Bool),v=.bool r0∧K r0 H2)
theorem Qcd.gh {C:Ctx} {p_e:Qb} {p_pattern:Bool} {K:Bool→Heap→Prop} {H:Heap} (h:Qcd C p_e p_pattern (fun r0 H2=>∃ H0,Gh C H2 H0∧K r0 H0) H):Qcd C p_e p_pattern K H:=ghm h
def Qbd (C:Ctx) (p_s:Sl) (p_f:Value) (K:Int→Heap→Prop) (H:Heap):Prop:=
 Spec Tryz.prog C 199 [slv p_s,p_f] H (fun v H2=>∃ (r0:Int),v=.int .i64 r0∧K r0 H2)
def QaS (C:Ctx) (p_s:Sl) (p_f:Value) (K:Int→Heap→Prop) (H:Heap):Prop:=
 Spec Tryz.prog C 200 [slv p_s,p_f] H (fun v H2=>∃ (r0:Int),v=.int .i64 r0∧K r0 H2)
def QaD (C:Ctx) (p_s:Sl) (p_f:Value) (K:Int→Heap→Prop) (H:Heap):Prop:=
 Spec Tryz.prog C 201 [slv p_s,p_f] H (fun v H2=>∃ (r0:Int),v=.int .i64 r0∧K r0 H2)
def QO (C:Ctx) (p_s:Sl) (p_f:Value) (K:Bool→Heap→Prop) (H:Heap):Prop:=
 Spec Tryz.prog C 202 [slv p_s,p_f] H (fun v H2=>∃ (r0:Bool),v=.bool r0∧K r0 H2)
def QmS (C:Ctx) (p_x:Qd) (v0:Nat×Nat) (K:Bool→Heap→Prop) (H:Heap):Prop:=
 Spec Tryz.prog C 203 [.agg (Qd.c p_x).toArray,pv (some v0)] H (fun v H2=>∃ (r0:Bool),v=.bool r0∧K r0 H2)
def Qdp (C:Ctx) (p_s:Str) (p_sep:Str) (K:Str→Str→Bool→Heap→Prop) (H:Heap):Prop:=
 Spec Tryz.prog C 204 [sv p_s,sv p_sep] H (fun v H2=>∃ (r0:Str) (r1:Str) (r2:Bool),v=.tuple #[sv r0,sv r1,.bool r2]∧K r0 r1 r2 H2)
def Qgq (C:Ctx) (p_w:Option (Nat×Nat)) (p_l:Sl) (p_between:Str) (p_write:Value) (K:Heap→Prop) (H:Heap):Prop:=
 Spec Tryz.prog C 205 [pv p_w,slv p_l,sv p_between,p_write] H (fun v H2=>v=.tuple #[]∧K H2)
def QbX (C:Ctx) (p_w:Option (Nat×Nat)) (p_l:Sl) (p_between:Str) (p_write:Value) (K:Heap→Prop) (H:Heap):Prop:=
 Spec Tryz.prog C 206 [pv p_w,slv p_l,sv p_between,p_write] H (fun v H2=>v=.tuple #[]∧K H2)
def QeX (C:Ctx) (p_w:Option (Nat×Nat)) (p_t:Qd) (K:Heap→Prop) (H:Heap):Prop:=
 Spec Tryz.prog C 207 [pv p_w,.agg (Qd.c p_t).toArray] H (fun v H2=>v=.tuple #[]∧K H2)
def QaN (C:Ctx) (p_w:Option (Nat×Nat)) (p_l:Sl) (p_between:Str) (p_write:Value) (K:Heap→Prop) (H:Heap):Prop:=
 Spec Tryz.prog C 208 [pv p_w,slv p_l,sv p_between,p_write] H (fun v H2=>v=.tuple #[]∧K H2)
def Qjn (C:Ctx) (p_v:Qe) (K:Str→Heap→Prop) (H:Heap):Prop:=
 Spec Tryz.prog C 209 [.agg (Qe.c p_v).toArray] H (fun v H2=>∃ (r0:Str),v=sv r0∧K r0 H2)
def Qeq (C:Ctx) (p_w:Option (Nat×Nat)) (p_e:Qb) (K:Heap→Prop) (H:Heap):Prop:=
 Spec Tryz.prog C 210 [pv p_w,.agg (Qb.c p_e).toArray] H (fun v H2=>v=.tuple #[]∧K H2)
def QdU (C:Ctx) (p_w:Option (Nat×Nat)) (p_e:Qb) (K:Heap→Prop) (H:Heap):Prop:=
 Spec Tryz.prog C 211 [pv p_w,.agg (Qb.c p_e).toArray] H (fun v H2=>v=.tuple #[]∧K H2)
def QfU (C:Ctx) (p_a:Sl) (p_b:Sl) (K:Bool→Heap→Prop) (H:Heap):Prop:=
 Spec Tryz.prog C 219 [slv p_a,slv p_b] H (fun v H2=>∃ (r0:Bool),v=.bool r0∧K r0 H2)
def Q1 (C:Ctx) (p_l:Sl) (p_depth:Value) (K:Int→Heap→Prop) (H:Heap):Prop:=
 Spec Tryz.prog C 220 [slv p_l,p_depth] H (fun v H2=>∃ (r0:Int),v=.int .i64 r0∧K r0 H2)
theorem Q1.gh {C:Ctx} {p_l:Sl} {p_depth:Value} {K:Int→Heap→Prop} {H:Heap} (h:Q1 C p_l p_depth (fun r0 H2=>∃ H0,Gh C H2 H0∧K r0 H0) H):Q1 C p_l p_depth K H:=ghm h
def Qbk (C:Ctx) (p_s:Str) (p_substr:Str) (K:Int→Heap→Prop) (H:Heap):Prop:=
 Spec Tryz.prog C 221 [sv p_s,sv p_substr] H (fun v H2=>∃ (r0:Int),v=.int .i64 r0∧K r0 H2)
def QbJ (C:Ctx) (p_s:Sl) (p_f:Value) (K:Int→Heap→Prop) (H:Heap):Prop:=
 Spec Tryz.prog C 222 [slv p_s,p_f] H (fun v H2=>∃ (r0:Int),v=.int .i64 r0∧K r0 H2)
def Qjk (C:Ctx) (p_x:Qd) (v0:Nat×Nat) (K:Bool→Heap→Prop) (H:Heap):Prop:=
 Spec Tryz.prog C 223 [.agg (Qd.c p_x).toArray,pv (some v0)] H (fun v H2=>∃ (r0:Bool),v=.bool r0∧K r0 H2)
def Qbn (C:Ctx) (p_s:Sl) (p_f:Value) (K:Int→Heap→Prop) (H:Heap):Prop:=
 Spec Tryz.prog C 224 [slv p_s,p_f] H (fun v H2=>∃ (r0:Int),v=.int .i64 r0∧K r0 H2)
def QbB (C:Ctx) (p_v:Qe) (K:Int→Heap→Prop) (H:Heap):Prop:=
 Spec Tryz.prog C 225 [.agg (Qe.c p_v).toArray] H (fun v H2=>∃ (r0:Int),v=.int .i64 r0∧K r0 H2)
theorem QbB.gh {C:Ctx} {p_v:Qe} {K:Int→Heap→Prop} {H:Heap} (h:QbB C p_v (fun r0 H2=>∃ H0,Gh C H2 H0∧K r0 H0) H):QbB C p_v K H:=ghm h
def Qjl (C:Ctx) (K:Option Nat→Heap→Prop) (H:Heap):Prop:=
 Spec Tryz.prog C 226 [] H (fun v H2=>∃ (r0:Option Nat),v=mv r0∧K r0 H2)
def QdV (C:Ctx) (p_v:Qe) (K:Bool→Heap→Prop) (H:Heap):Prop:=
 Spec Tryz.prog C 227 [.agg (Qe.c p_v).toArray] H (fun v H2=>∃ (r0:Bool),v=.bool r0∧K r0 H2)
theorem QdV.gh {C:Ctx} {p_v:Qe} {K:Bool→Heap→Prop} {H:Heap} (h:QdV C p_v (fun r0 H2=>∃ H0,Gh C H2 H0∧K r0 H0) H):QdV C p_v K H:=ghm h
def Qdm (C:Ctx) (p_x:Qb) (v0:Nat×Nat) (K:Bool→Heap→Prop) (H:Heap):Prop:=
 Spec Tryz.prog C 228 [.agg (Qb.c p_x).toArray,pv (some v0)] H (fun v H2=>∃ (r0:Bool),v=.bool r0∧K r0 H2)
theorem Qdm.gh {C:Ctx} {p_x:Qb} {v0:Nat×Nat} {K:Bool→Heap→Prop} {H:Heap} (h:Qdm C p_x v0 (fun r0 H2=>∃ H0,Gh C H2 H0∧K r0 H0) H):Qdm C p_x v0 K H:=ghm h
def Qbp (C:Ctx) (p_s:Sl) (p_f:Value) (K:Int→Heap→Prop) (H:Heap):Prop:=
 Spec Tryz.prog C 229 [slv p_s,p_f] H (fun v H2=>∃ (r0:Int),v=.int .i64 r0∧K r0 H2)
def QbU (C:Ctx) (p_w:Option (Nat×Nat)) (p_l:Sl) (p_write:Value) (K:Heap→Prop) (H:Heap):Prop:=
 Spec Tryz.prog C 230 [pv p_w,slv p_l,p_write] H (fun v H2=>v=.tuple #[]∧K H2)
def QgT (C:Ctx) (p_l:Sl) (v0:Nat×Nat) (v1:Nat×Nat) (K:Heap→Prop) (H:Heap):Prop:=
 Spec Tryz.prog C 231 [slv p_l,pv (some v0),pv (some v1)] H (fun v H2=>v=.tuple #[]∧K H2)
def QdF (C:Ctx) (p_v:Qe) (v0:Nat×Nat) (v1:Nat×Nat) (K:Heap→Prop) (H:Heap):Prop:=
 Spec Tryz.prog C 232 [.agg (Qe.c p_v).toArray,pv (some v0),pv (some v1)] H (fun v H2=>v=.tuple #[]∧K H2)
def Qdt (C:Ctx) (p_b:Bool) (K:Str→Heap→Prop) (H:Heap):Prop:=
 Spec Tryz.prog C 233 [.bool p_b] H (fun v H2=>∃ (r0:Str),v=sv r0∧K r0 H2)
def QfV (C:Ctx) (p_i:Int) (p_base:Int) (K:Str→Heap→Prop) (H:Heap):Prop:=
 Spec Tryz.prog C 234 [.int .i64 p_i,.int .i64 p_base] H (fun v H2=>∃ (r0:Str),v=sv r0∧K r0 H2)
def Qij (C:Ctx) (p_b:Option (Nat×Nat)) (p_s:Str) (K:Heap→Prop) (H:Heap):Prop:=
 Spec Tryz.prog C 235 [pv p_b,sv p_s] H (fun v H2=>v=.tuple #[]∧K H2)
def Qeo (C:Ctx) (p_s:Str) (K:Bool→Heap→Prop) (H:Heap):Prop:=
 Spec Tryz.prog C 236 [sv p_s] H (fun v H2=>∃ (r0:Bool),v=.bool r0∧K r0 H2)
def QaV (C:Ctx) (p_s:Str) (p_c:Int) (K:Int→Heap→Prop) (H:Heap):Prop:=
 Spec Tryz.prog C 241 [sv p_s,.int .u8 p_c] H (fun v H2=>∃ (r0:Int),v=.int .i64 r0∧K r0 H2)
def Qgg (C:Ctx) (p_n:Int) (K:Int→Heap→Prop) (H:Heap):Prop:=
 Spec Tryz.prog C 243 [.int .i64 p_n] H (fun v H2=>∃ (r0:Int),v=.int .i64 r0∧K r0 H2)
def QcY (C:Ctx) (p_s:Str) (p_sep:Str) (K:Int→Heap→Prop) (H:Heap):Prop:=
 Spec Tryz.prog C 244 [sv p_s,sv p_sep] H (fun v H2=>∃ (r0:Int),v=.int .i64 r0∧K r0 H2)
def Qbl (C:Ctx) (p_v:Qe) (p_most:Int) (K:Int→Heap→Prop) (H:Heap):Prop:=
 Spec Tryz.prog C 245 [.agg (Qe.c p_v).toArray,.int .i64 p_most] H (fun v H2=>∃ (r0:Int),v=.int .i64 r0∧K r0 H2)
theorem Qbl.gh {C:Ctx} {p_v:Qe} {p_most:Int} {K:Int→Heap→Prop} {H:Heap} (h:Qbl C p_v p_most (fun r0 H2=>∃ H0,Gh C H2 H0∧K r0 H0) H):Qbl C p_v p_most K H:=ghm h
def Qal (C:Ctx) (p_v:Qe) (K:Bool→Bool→Heap→Prop) (H:Heap):Prop:=
 Spec Tryz.prog C 246 [.agg (Qe.c p_v).toArray] H (fun v H2=>∃ (r0:Bool) (r1:Bool),v=.tuple #[.bool r0,.bool r1]∧K r0 r1 H2)
theorem Qal.gh {C:Ctx} {p_v:Qe} {K:Bool→Bool→Heap→Prop} {H:Heap} (h:Qal C p_v (fun r0 r1 H2=>∃ H0,Gh C H2 H0∧K r0 r1 H0) H):Qal C p_v K H:=
 Spec.gh (Spec.mono h fun _ H2 ⟨r0,r1,hv,H0,hg,hk⟩=>⟨H0,hg,r0,r1,hv,hk⟩)
def Qdw (C:Ctx) (p_w:Option (Nat×Nat)) (p_l:Sl) (p_between:Str) (p_write:Value) (K:Heap→Prop) (H:Heap):Prop:=
 Spec Tryz.prog C 247 [pv p_w,slv p_l,sv p_between,p_write] H (fun v H2=>v=.tuple #[]∧K H2)
def Qcm (C:Ctx) (p_b:Bool) (K:Str→Heap→Prop) (H:Heap):Prop:=
 Spec Tryz.prog C 248 [.bool p_b] H (fun v H2=>∃ (r0:Str),v=sv r0∧K r0 H2)
def QgU (C:Ctx) (p_s:Str) (K:Int→Bool→Heap→Prop) (H:Heap):Prop:=
 Spec Tryz.prog C 255 [sv p_s] H (fun v H2=>∃ (r0:Int) (r1:Bool),v=.tuple #[.int .i64 r0,.bool r1]∧K r0 r1 H2)
def QdX (C:Ctx) (p_s:Str) (K:Bool→Heap→Prop) (H:Heap):Prop:=
 Spec Tryz.prog C 256 [sv p_s] H (fun v H2=>∃ (r0:Bool),v=.bool r0∧K r0 H2)
def Qdu (C:Ctx) (p_s:Str) (p_prefix:Str) (K:Str→Heap→Prop) (H:Heap):Prop:=
 Spec Tryz.prog C 261 [sv p_s,sv p_prefix] H (fun v H2=>∃ (r0:Str),v=sv r0∧K r0 H2)
def QbH (C:Ctx) (p_s:Str) (p_cutset:Str) (K:Str→Heap→Prop) (H:Heap):Prop:=
 Spec Tryz.prog C 262 [sv p_s,sv p_cutset] H (fun v H2=>∃ (r0:Str),v=sv r0∧K r0 H2)
theorem QbH.gh {C:Ctx} {p_s:Str} {p_cutset:Str} {K:Str→Heap→Prop} {H:Heap} (h:QbH C p_s p_cutset (fun r0 H2=>∃ H0,Gh C H2 H0∧K r0 H0) H):QbH C p_s p_cutset K H:=ghm h
def Qbz (C:Ctx) (p_s:Str) (p_prefix:Str) (K:Str→Heap→Prop) (H:Heap):Prop:=
 Spec Tryz.prog C 268 [sv p_s,sv p_prefix] H (fun v H2=>∃ (r0:Str),v=sv r0∧K r0 H2)
def QiU (C:Ctx) (p_s:Str) (p_c:Int) (K:Str→Heap→Prop) (H:Heap):Prop:=
 Spec Tryz.prog C 269 [sv p_s,.int .u8 p_c] H (fun v H2=>∃ (r0:Str),v=sv r0∧K r0 H2)
def Qif (C:Ctx) (p_s:Str) (p_c:Int) (K:Str→Heap→Prop) (H:Heap):Prop:=
 Spec Tryz.prog C 270 [sv p_s,.int .u8 p_c] H (fun v H2=>∃ (r0:Str),v=sv r0∧K r0 H2)
def Qaa (C:Ctx) (p_chars:Str) (K:List Value→Bool→Heap→Prop) (H:Heap):Prop:=
 Spec Tryz.prog C 271 [sv p_chars] H (fun v H2=>∃ (r0:List Value) (r1:Bool),v=.tuple #[.agg (List.toArray r0),.bool r1]∧K r0 r1 H2)
theorem Qaa.gh {C:Ctx} {p_chars:Str} {K:List Value→Bool→Heap→Prop} {H:Heap} (h:Qaa C p_chars (fun r0 r1 H2=>∃ H0,Gh C H2 H0∧K r0 r1 H0) H):Qaa C p_chars K H:=
 Spec.gh (Spec.mono h fun _ H2 ⟨r0,r1,hv,H0,hg,hk⟩=>⟨H0,hg,r0,r1,hv,hk⟩)
def Qcb (C:Ctx) (p_s:Str) (p_as:Option (Nat×Nat)) (K:Str→Heap→Prop) (H:Heap):Prop:=
 Spec Tryz.prog C 272 [sv p_s,pv p_as] H (fun v H2=>∃ (r0:Str),v=sv r0∧K r0 H2)
def QbT (C:Ctx) (p_s:Str) (p_as:Option (Nat×Nat)) (K:Str→Heap→Prop) (H:Heap):Prop:=
 Spec Tryz.prog C 273 [sv p_s,pv p_as] H (fun v H2=>∃ (r0:Str),v=sv r0∧K r0 H2)
def QgR (C:Ctx) (p_s:Str) (p_cutset:Str) (K:Str→Heap→Prop) (H:Heap):Prop:=
 Spec Tryz.prog C 274 [sv p_s,sv p_cutset] H (fun v H2=>∃ (r0:Str),v=sv r0∧K r0 H2)
def Qgj (C:Ctx) (p_s:Str) (p_cutset:Str) (K:Str→Heap→Prop) (H:Heap):Prop:=
 Spec Tryz.prog C 275 [sv p_s,sv p_cutset] H (fun v H2=>∃ (r0:Str),v=sv r0∧K r0 H2)
def QaJ (C:Ctx) (p_as:Option (Nat×Nat)) (p_c:Int) (K:Bool→Heap→Prop) (H:Heap):Prop:=
 Spec Tryz.prog C 278 [pv p_as,.int .u8 p_c] H (fun v H2=>∃ (r0:Bool),v=.bool r0∧K r0 H2)
end
section
set_option maxRecDepth 100000
open Go Go.Proofs
def Qfz (C:Ctx) (p_l:Sl) (p_picks:Sl) (K:Bool→Heap→Prop) (H:Heap):Prop:=
 Qic C p_l (fun r1 H2=>
 jn (α:=Bool) (fun b3 H9=>
 ift b3
 (QfL C (fun r11 H12=>
 K r11 H12) H9)
 (Qcn C p_l (fun r13 r14 r15 H16=>
 nw (Qa.c Qa.zero) (fun b17 H18=>
 nw (Qi.c Qi.zero) (fun b19 H20=>
 stT (b17,0) (Qa.c r13) (fun H21=>
 stT (b19,0) (Qi.c r14) (fun H22=>
 ift ((r15:Int) != 0)
 (K true H22)
 (ixa p_l 0 fun p24=>
 ldT H22 Qa.c (p24.1,p24.2+(0:Int).toNat*6) fun x29=>
 nw ((Qa.c x29)++[]) (fun b31 H32=>
 nw ([]) (fun b33 H34=>
 slL p_l 1 (Sl.len p_l:Int) (Sl.cap p_l:Int) 6 fun t35=>
 apS (Qa.c Qa.zero) 136 (Sl.of (some (b33,0)) 0 0) t35 (fun r41 H42=>
 lp (α:=Sl×Sl×Int) ((Sl.of (some (b31,0)) 1 1),r41,0) H42 (fun x43 J44 H45=>
 ift (decide (((Sl.len x43.2.1:Int):Int) > 0))
 (jn (α:=Int) (fun x48 H49=>
 ixa x43.2.1 x48 fun p60=>
 ldT H49 Qa.c (p60.1,p60.2+(x48:Int).toNat*6) fun x65=>
 apd (Qa.c Qa.zero) 136 x43.1 ((Qa.c x65)++[]) 1 (fun r67 H68=>
 dr H68 fun Hs69=>
 slL x43.2.1 0 x48 (Sl.cap x43.2.1:Int) 6 fun t71=>
 slL x43.2.1 (w .i64 (x48+1)) (Sl.len x43.2.1:Int) (Sl.cap x43.2.1:Int) 6 fun t77=>
 nw ([]) (fun b84 H85=>
 Heap.le Hs69 H85∧
 apS (Qa.c Qa.zero) 136 (Sl.of (some (b84,0)) 0 0) t71 (fun r87 H88=>
 Heap.le Hs69 H88∧
 apS (Qa.c Qa.zero) 136 r87 t77 (fun r90 H91=>
 Heap.le Hs69 H91∧
 J44 (r67,r90,(w .i64 (x43.2.2+1))) H91) H88) H85) H68) H49)
 (fun J47=>ift (decide ((x43.2.2:Int) < (Sl.len p_picks:Int)))
 (ixa p_picks x43.2.2 fun p52=>
 ldI H45 .i64 (p52.1,p52.2+(x43.2.2:Int).toNat*1) fun x57=>
 (w .u64 (Sl.len x43.2.1:Int))≠0∧
 J47 (w .i64 (Int.tmod (w .u64 x57) (w .u64 (Sl.len x43.2.1:Int)))) H45)
 (J47 0 H45)))
 (Qcn C x43.1 (fun r92 r93 r94 H95=>
 nw (Qa.c Qa.zero) (fun b96 H97=>
 nw (Qi.c Qi.zero) (fun b98 H99=>
 stT (b96,0) (Qa.c r92) (fun H100=>
 stT (b98,0) (Qi.c r93) (fun H101=>
 jn (α:=Bool) (fun b102 H110=>
 jn (α:=Bool) (fun b111 H119=>
 jn (α:=Bool) (fun b120 H128=>
 jn (α:=Bool) (fun b129 H137=>
 jn (α:=Bool) (fun b138 H146=>
 ift b138
 (K false H146)
 (lp (α:=Int) 0 H146 (fun x148 J149 H150=>
 ldL H150 ((b17,0).1,(b17,0).2+3) fun x151=>
 ift (decide ((x148:Int) < (Sl.len x151:Int)))
 (lp (α:=Int×Int) (0,0) H150 (fun x154 J155 H156=>
 ldL H156 ((b96,0).1,(b96,0).2+3) fun x157=>
 ift (decide ((x154.2:Int) < (Sl.len x157:Int)))
 (jn (α:=Int) (fun x161 H162=>
 J155 (x161,(w .i64 (x154.2+1))) H162)
 (fun J160=>jn (α:=Bool) (fun x165 H166=>
 ift x165
 (J160 (w .i64 (x154.1+1)) H166)
 (J160 x154.1 H166))
 (fun J164=>dr H156 fun Hs168=>
 ldL Hs168 ((b17,0).1,(b17,0).2+3) fun x170=>
 ixa x170 x148 fun p172=>
 ldS Hs168 ((p172.1,p172.2+(x148:Int).toNat*6).1,(p172.1,p172.2+(x148:Int).toNat*6).2+4) fun x177=>
 ldL Hs168 ((b96,0).1,(b96,0).2+3) fun x179=>
 ixa x179 x154.2 fun p181=>
 ldS Hs168 ((p181.1,p181.2+(x154.2:Int).toNat*6).1,(p181.1,p181.2+(x154.2:Int).toNat*6).2+4) fun x186=>
 ift (x177 == x186)
 (ldL Hs168 ((b17,0).1,(b17,0).2+3) fun x189=>
 ixa x189 x148 fun p191=>
 ldL Hs168 ((p191.1,p191.2+(x148:Int).toNat*6).1,(p191.1,p191.2+(x148:Int).toNat*6).2+5) fun x196=>
 ldL Hs168 ((b96,0).1,(b96,0).2+3) fun x198=>
 ixa x198 x154.2 fun p200=>
 ldL Hs168 ((p200.1,p200.2+(x154.2:Int).toNat*6).1,(p200.1,p200.2+(x154.2:Int).toNat*6).2+5) fun x205=>
 QaG C x196 x205 (fun r208 H209=>
 Heap.le Hs168 H209∧
 J164 r208 H209) H156)
 (J164 false H156))))
 (ift ((x154.1:Int) != 1)
 (K false H156)
 (J149 (w .i64 (x148+1)) H156))))
 (lp (α:=Int) 0 H150 (fun x212 J213 H214=>
 ldL H214 ((b17,0).1,(b17,0).2+4) fun x215=>
 ift (decide ((x212:Int) < (Sl.len x215:Int)))
 (lp (α:=Int×Int×Int) (0,0,0) H214 (fun x218 J219 H220=>
 ldL H220 ((b96,0).1,(b96,0).2+4) fun x221=>
 ift (decide ((x218.2.2:Int) < (Sl.len x221:Int)))
 (jn (α:=Int×Int) (fun x225 H226=>
 J219 (x225.1,x225.2,(w .i64 (x218.2.2+1))) H226)
 (fun J224=>jn (α:=Int) (fun x229 H230=>
 dr H230 fun Hs256=>
 ldL Hs256 ((b17,0).1,(b17,0).2+4) fun x258=>
 ixa x258 x212 fun p260=>
 ldT Hs256 Qj.c (p260.1,p260.2+(x212:Int).toNat*6) fun x265=>
 ldL Hs256 ((b17,0).1,(b17,0).2+4) fun x267=>
 ixa x267 x218.2.2 fun p269=>
 ldT Hs256 Qj.c (p269.1,p269.2+(x218.2.2:Int).toNat*6) fun x274=>
 QaP C x265 x274 (fun r277 H278=>
 Heap.le Hs256 H278∧
 ift r277
 (J224 (x229,(w .i64 (x218.2.1+1))) H278)
 (J224 (x229,x218.2.1) H278)) H230)
 (fun J228=>dr H220 fun Hs232=>
 ldL Hs232 ((b17,0).1,(b17,0).2+4) fun x234=>
 ixa x234 x212 fun p236=>
 ldT Hs232 Qj.c (p236.1,p236.2+(x212:Int).toNat*6) fun x241=>
 ldL Hs232 ((b96,0).1,(b96,0).2+4) fun x243=>
 ixa x243 x218.2.2 fun p245=>
 ldT Hs232 Qj.c (p245.1,p245.2+(x218.2.2:Int).toNat*6) fun x250=>
 QaP C x241 x250 (fun r253 H254=>
 Heap.le Hs232 H254∧
 ift r253
 (J228 (w .i64 (x218.1+1)) H254)
 (J228 x218.1 H254)) H220)))
 (ift ((x218.1:Int) != x218.2.1)
 (K false H220)
 (J213 (w .i64 (x212+1)) H220))))
 (K true H214))))))
 (fun J139=>ift b129
 (J139 true H137)
 (ldL H137 ((b17,0).1,(b17,0).2+5) fun x142=>
 ldL H137 ((b96,0).1,(b96,0).2+5) fun x144=>
 J139 (((Sl.len x142:Int):Int) != (Sl.len x144:Int)) H137)))
 (fun J130=>ift b120
 (J130 true H128)
 (ldL H128 ((b17,0).1,(b17,0).2+4) fun x133=>
 ldL H128 ((b96,0).1,(b96,0).2+4) fun x135=>
 J130 (((Sl.len x133:Int):Int) != (Sl.len x135:Int)) H128)))
 (fun J121=>ift b111
 (J121 true H119)
 (ldL H119 ((b17,0).1,(b17,0).2+3) fun x124=>
 ldL H119 ((b96,0).1,(b96,0).2+3) fun x126=>
 J121 (((Sl.len x124:Int):Int) != (Sl.len x126:Int)) H119)))
 (fun J112=>ift b102
 (J112 true H110)
 (ldL H110 ((b17,0).1,(b17,0).2+2) fun x115=>
 ldL H110 ((b96,0).1,(b96,0).2+2) fun x117=>
 J112 (((Sl.len x115:Int):Int) != (Sl.len x117:Int)) H110)))
 (fun J103=>ift ((r94:Int) != 0)
 (J103 true H101)
 (ldS H101 ((b17,0).1,(b17,0).2+0) fun x106=>
 ldS H101 ((b96,0).1,(b96,0).2+0) fun x108=>
 J103 (!(x106 == x108)) H101))) H100) H99) H97) H95) H45))) H34) H32) H22)) H21) H20) H18) H16) H9))
 (fun J4=>ift r1
 (J4 true H2)
 (QfL C (fun r7 H8=>
 J4 (!r7) H8) H2))) H
theorem Qj4 (C p_l p_picks K H) (h:Qfz C p_l p_picks K H):Qbs C p_l p_picks K H:=by
 refine Ye Tryz.func6 rfl Tryz.ntmps6 [(0,slv p_l),(1,slv p_picks)] (Zo (Za (GL.nil (GC.seq (Zo (Zm (Zc h QnV ?_)))))))
 rintro _ H2 ⟨r1,rfl,h⟩
 refine Zm ?_
 obtain ⟨J4,h,hR5⟩:=h
 refine GL.cut (α:=Bool) 3 J4 (fun b3=>[(27,.bool b3),(0,slv p_l),(1,slv p_picks)]) ?_ ?_
 rcases h.em with ⟨hc6,h⟩ | ⟨hc6,h⟩
 refine Zk hc6 (Zk hc6 (Zt hc6 ?_))
 exact Yj I3 true h
 refine GL.call h (Yt hc6) rfl Qkl (vs:=[]) rfl ?_
 rintro _ H8 ⟨r7,rfl,h⟩
 refine Zu hc6 (OV.not rfl) (Zn hc6 ?_)
 exact Yj I3 (!r7) h
 intro b3 H9 h
 replace h:=hR5 b3 H9 h
 refine GL.nil (Yd h (fun hc10 h=>?_) fun hc10 h=>?_)
 refine Zo (Zc h Qkl ?_)
 rintro _ H12 ⟨r11,rfl,h⟩
 refine Za (GL.nil ?_)
 exact Y1 I3 ⟨r11,rfl,h⟩
 refine GC.skip (Zo (Zm (Zc h Qe0 ?_)))
 rintro _ H16 ⟨r13,r14,r15,rfl,h⟩
 refine Zm (Yv (.agg (Qa.c r13).toArray) rfl rfl (Yv (.agg (Qi.c r14).toArray) rfl rfl (Yv (.int .i64 r15) rfl rfl (GL.alloc (cs:=Qa.c Qa.zero) h trivial rfl rfl rfl ?_))))
 intro b17 H18 h
 refine GL.alloc (cs:=Qi.c Qi.zero) h trivial rfl rfl rfl ?_
 intro b19 H20 h
 refine GL.storeT (p:=(b17,0)) (vs:=Qa.c r13) h trivial rfl rfl rfl rfl ?_
 intro H21 h
 refine GL.storeT (p:=(b19,0)) (vs:=Qi.c r14) h trivial rfl rfl rfl rfl ?_
 intro H22 h
 refine Za (GL.nil (GC.seq (Zo (Zm (Zi (.bool ((r15:Int) != 0)) (GL.nil (Yd h (fun hc23 h=>?_) fun hc23 h=>?_)))))))
 refine Zo (Za (GL.nil ?_))
 exact Y1 I3 ⟨true,rfl,h⟩
 refine GC.skip (Zo (Zm (Yx h fun p24 h=>?_)))
 obtain ⟨x29,v30,h⟩:=h
 refine Zv (OV.loadT rfl rfl rfl v30) (GL.buildSlice (cs:=(Qa.c x29)++[]) h trivial rfl (vs:=[(0,.agg (Qa.c x29).toArray)]) rfl ⟨55,fun _=>by kernel_rfl⟩ ?_)
 intro b31 H32 h
 refine Za (GL.nil (Zo (GL.buildSlice (cs:=[]) h trivial rfl (vs:=[]) rfl ⟨55,fun _=>by kernel_rfl⟩ ?_)))
 intro b33 H34 h
 refine Zm ?_
 obtain ⟨h36,h37,h38,h39,t35,h40,h⟩:=h
 refine Zv (OV.sliceSl (s:=p_l) h36 h37 h38 h39 h40 rfl rfl rfl rfl rfl rfl rfl (fun h=>by first | rfl | cases h) rfl rfl) (GL.appendS (s:=(Sl.of (some (b33,0)) 0 0)) (s2:=t35) (zc:=Qa.c Qa.zero) (bytes:=136) h trivial rfl rfl rfl ⟨⟨_,_,_,rfl,rfl,rfl,rfl,rfl,rfl⟩⟩ rfl ?_)
 intro r41 H42 h
 refine Za (GL.nil (GC.seq (Zo (Za (GL.nil (GC.block (Yp h (fun x43=>[(8,slv x43.1),(9,slv x43.2.1),(10,.int .i64 x43.2.2),(1,slv p_picks),(5,pv (some (b17,0)))]) ?_)))))))
 intro x43 H45 J44 h
 refine GC.seq (Zo (Zm (Zq (Zi (.bool (decide (((Sl.len x43.2.1:Int):Int) > 0))) (GL.nil (Yd h (fun hc46 h=>?_) fun hc46 h=>?_))))))
 refine GC.skip (GC.seq (GC.block (Zo (Za (GL.nil ?_)))))
 obtain ⟨J47,h,hR50⟩:=h
 refine GC.join (α:=Int) J47 (fun x48=>[(11,.int .i64 x48),(1,slv p_picks),(5,pv (some (b17,0))),(8,slv x43.1),(9,slv x43.2.1),(10,.int .i64 x43.2.2)]) ?_ ?_
 refine Zo (Zm (Zm (Zq (Zi (.bool (decide ((x43.2.2:Int) < (Sl.len p_picks:Int)))) (GL.nil (Yd h (fun hc51 h=>?_) fun hc51 h=>?_))))))
 refine GC.region (Zm (Zm (Yx h fun p52 h=>?_)))
 refine Yl h fun x57 h=>?_
 refine Zv (OV.convInt rfl rfl rfl) (Zm (Zq (Zv (OV.convInt rfl rfl rfl) ?_)))
 obtain ⟨hb59,h⟩:=h
 refine Zv (OV.rem rfl rfl hb59) (Zv (OV.convInt rfl rfl rfl) (Za ?_))
 exact Yj I3 (w .i64 (Int.tmod (w .u64 x57) (w .u64 (Sl.len x43.2.1:Int)))) h
 exact Yk I3 0 h
 intro x48 H49 h
 replace h:=hR50 x48 H49 h
 refine Zo (Zm (Zm (Zm (Yx h fun p60 h=>?_))))
 obtain ⟨x65,v66,h⟩:=h
 refine Zv (OV.loadT rfl rfl rfl v66) (GL.appendLit (s:=x43.1) (ys:=(Qa.c x65)++[]) (zc:=Qa.c Qa.zero) (bytes:=136) h trivial rfl (fun _=>trivial) rfl (fun _=>rfl) (fun _=>rfl) (vs:=[(0,.agg (Qa.c x65).toArray)]) rfl ⟨55,fun _=>by kernel_rfl⟩ ⟨⟨_,_,_,rfl,rfl,rfl,rfl,rfl,rfl⟩⟩ rfl rfl ?_)
 intro _ r67 H68 h
 refine Za (GL.nil ?_)
 obtain ⟨Hs69,hle70,h⟩:=h
 refine GC.any (Hs:=Hs69) (by kernel_rfl) hle70 (Zp 1 rfl Ym (Zp 2 rfl Ym ?_))
 obtain ⟨h72,h73,h74,h75,t71,h76,h⟩:=h
 refine Zp 3 rfl (OV.sliceSl (s:=x43.2.1) h72 h73 h74 h75 h76 rfl rfl rfl rfl rfl rfl rfl (fun h=>by first | rfl | cases h) rfl rfl) (Zp 5 rfl Ym (Zp 6 rfl Ym (Zp 7 rfl (OV.ibin (v:=.int .i64 (w .i64 (x48+1))) rfl rfl rfl) ?_)))
 obtain ⟨h78,h79,h80,h81,t77,h82,h⟩:=h
 refine Zp 8 rfl (OV.sliceSl (s:=x43.2.1) h78 h79 h80 h81 h82 rfl rfl rfl rfl rfl rfl rfl (fun h=>by first | rfl | cases h) rfl rfl) (GA.eff 0 rfl (by kernel_rfl) (GL.buildSlice (cs:=[]) h trivial rfl (vs:=[]) rfl ⟨55,fun _=>by kernel_rfl⟩ ?_))
 intro b84 H85 h
 obtain ⟨hle83,h⟩:=h
 refine GA.back hle83 (GA.eff 4 rfl (by kernel_rfl) (GL.appendS (s:=(Sl.of (some (b84,0)) 0 0)) (s2:=t71) (zc:=Qa.c Qa.zero) (bytes:=136) h trivial rfl rfl rfl ⟨⟨_,_,_,rfl,rfl,rfl,rfl,rfl,rfl⟩⟩ rfl ?_))
 intro r87 H88 h
 obtain ⟨hle86,h⟩:=h
 refine GA.back hle86 (GA.eff 9 rfl (by kernel_rfl) (GL.appendS (s:=r87) (s2:=t77) (zc:=Qa.c Qa.zero) (bytes:=136) h trivial rfl rfl rfl ⟨⟨_,_,_,rfl,rfl,rfl,rfl,rfl,rfl⟩⟩ rfl ?_))
 intro r90 H91 h
 obtain ⟨hle89,h⟩:=h
 refine GA.back hle89 (Zp 10 rfl Ya (GA.done (by kernel_rfl) (GL.nil_to I3 (GC.region (Zm (Zi (.int .i64 (w .i64 (x43.2.2+1))) (Za ?_)))))))
 exact Yj I3 (r67,r90,(w .i64 (x43.2.2+1))) h
 refine GC.exit_to I3 (Zo (Zm (Zc h Qe0 ?_)))
 rintro _ H95 ⟨r92,r93,r94,rfl,h⟩
 refine Zm (Yv (.agg (Qa.c r92).toArray) rfl rfl (Yv (.agg (Qi.c r93).toArray) rfl rfl (Yv (.int .i64 r94) rfl rfl (GL.alloc (cs:=Qa.c Qa.zero) h trivial rfl rfl rfl ?_))))
 intro b96 H97 h
 refine GL.alloc (cs:=Qi.c Qi.zero) h trivial rfl rfl rfl ?_
 intro b98 H99 h
 refine GL.storeT (p:=(b96,0)) (vs:=Qa.c r92) h trivial rfl rfl rfl rfl ?_
 intro H100 h
 refine GL.storeT (p:=(b98,0)) (vs:=Qi.c r93) h trivial rfl rfl rfl rfl ?_
 intro H101 h
 refine Za (GL.nil (GC.seq (Zo (Zm (Zi (.bool ((r94:Int) != 0)) (Zm ?_))))))
 obtain ⟨J103,h,hR104⟩:=h
 refine GL.cut (α:=Bool) 6 J103 (fun b102=>[(95,.bool b102),(5,pv (some (b17,0))),(12,pv (some (b96,0)))]) ?_ ?_
 rcases h.em with ⟨hc105,h⟩ | ⟨hc105,h⟩
 refine Zk hc105 (Zk hc105 (Zk hc105 (Zk hc105 (Zk hc105 (Zt hc105 ?_)))))
 exact Yj I3 true h
 refine Zu hc105 Yf ?_
 obtain ⟨x106,v107,h⟩:=h
 refine Zu hc105 (Yo v107) (Zu hc105 Yf ?_)
 obtain ⟨x108,v109,h⟩:=h
 refine Zu hc105 (Yo v109) (Zu hc105 (OV.sbin (a:=x106) (b:=x108) (v:=.bool (!(x106 == x108))) rfl rfl rfl) (Zn hc105 ?_))
 exact Yj I3 (!(x106 == x108)) h
 intro b102 H110 h
 replace h:=hR104 b102 H110 h
 refine Zm ?_
 obtain ⟨J112,h,hR113⟩:=h
 refine GL.cut (α:=Bool) 8 J112 (fun b111=>[(104,.bool b111),(5,pv (some (b17,0))),(12,pv (some (b96,0)))]) ?_ ?_
 rcases h.em with ⟨hc114,h⟩ | ⟨hc114,h⟩
 refine Zk hc114 (Zk hc114 (Zk hc114 (Zk hc114 (Zk hc114 (Zk hc114 (Zk hc114 (Zt hc114 ?_)))))))
 exact Yj I3 true h
 refine Zu hc114 Yf ?_
 obtain ⟨x115,v116,h⟩:=h
 refine Zu hc114 (Yo v116) (Zu hc114 (OV.lenSl rfl rfl) (Zu hc114 Yf ?_))
 obtain ⟨x117,v118,h⟩:=h
 refine Zu hc114 (Yo v118) (Zu hc114 (OV.lenSl rfl rfl) (Zu hc114 (OV.ibin (v:=.bool (((Sl.len x115:Int):Int) != (Sl.len x117:Int))) rfl rfl rfl) (Zn hc114 ?_)))
 exact Yj I3 (((Sl.len x115:Int):Int) != (Sl.len x117:Int)) h
 intro b111 H119 h
 replace h:=hR113 b111 H119 h
 refine Zm ?_
 obtain ⟨J121,h,hR122⟩:=h
 refine GL.cut (α:=Bool) 8 J121 (fun b120=>[(113,.bool b120),(5,pv (some (b17,0))),(12,pv (some (b96,0)))]) ?_ ?_
 rcases h.em with ⟨hc123,h⟩ | ⟨hc123,h⟩
 refine Zk hc123 (Zk hc123 (Zk hc123 (Zk hc123 (Zk hc123 (Zk hc123 (Zk hc123 (Zt hc123 ?_)))))))
 exact Yj I3 true h
 refine Zu hc123 Yf ?_
 obtain ⟨x124,v125,h⟩:=h
 refine Zu hc123 (Yo v125) (Zu hc123 (OV.lenSl rfl rfl) (Zu hc123 Yf ?_))
 obtain ⟨x126,v127,h⟩:=h
 refine Zu hc123 (Yo v127) (Zu hc123 (OV.lenSl rfl rfl) (Zu hc123 (OV.ibin (v:=.bool (((Sl.len x124:Int):Int) != (Sl.len x126:Int))) rfl rfl rfl) (Zn hc123 ?_)))
 exact Yj I3 (((Sl.len x124:Int):Int) != (Sl.len x126:Int)) h
 intro b120 H128 h
 replace h:=hR122 b120 H128 h
 refine Zm ?_
 obtain ⟨J130,h,hR131⟩:=h
 refine GL.cut (α:=Bool) 8 J130 (fun b129=>[(122,.bool b129),(5,pv (some (b17,0))),(12,pv (some (b96,0)))]) ?_ ?_
 rcases h.em with ⟨hc132,h⟩ | ⟨hc132,h⟩
 refine Zk hc132 (Zk hc132 (Zk hc132 (Zk hc132 (Zk hc132 (Zk hc132 (Zk hc132 (Zt hc132 ?_)))))))
 exact Yj I3 true h
 refine Zu hc132 Yf ?_
 obtain ⟨x133,v134,h⟩:=h
 refine Zu hc132 (Yo v134) (Zu hc132 (OV.lenSl rfl rfl) (Zu hc132 Yf ?_))
 obtain ⟨x135,v136,h⟩:=h
 refine Zu hc132 (Yo v136) (Zu hc132 (OV.lenSl rfl rfl) (Zu hc132 (OV.ibin (v:=.bool (((Sl.len x133:Int):Int) != (Sl.len x135:Int))) rfl rfl rfl) (Zn hc132 ?_)))
 exact Yj I3 (((Sl.len x133:Int):Int) != (Sl.len x135:Int)) h
 intro b129 H137 h
 replace h:=hR131 b129 H137 h
 refine Zm ?_
 obtain ⟨J139,h,hR140⟩:=h
 refine GL.cut (α:=Bool) 8 J139 (fun b138=>[(131,.bool b138),(5,pv (some (b17,0))),(12,pv (some (b96,0)))]) ?_ ?_
 rcases h.em with ⟨hc141,h⟩ | ⟨hc141,h⟩
 refine Zk hc141 (Zk hc141 (Zk hc141 (Zk hc141 (Zk hc141 (Zk hc141 (Zk hc141 (Zt hc141 ?_)))))))
 exact Yj I3 true h
 refine Zu hc141 Yf ?_
 obtain ⟨x142,v143,h⟩:=h
 refine Zu hc141 (Yo v143) (Zu hc141 (OV.lenSl rfl rfl) (Zu hc141 Yf ?_))
 obtain ⟨x144,v145,h⟩:=h
 refine Zu hc141 (Yo v145) (Zu hc141 (OV.lenSl rfl rfl) (Zu hc141 (OV.ibin (v:=.bool (((Sl.len x142:Int):Int) != (Sl.len x144:Int))) rfl rfl rfl) (Zn hc141 ?_)))
 exact Yj I3 (((Sl.len x142:Int):Int) != (Sl.len x144:Int)) h
 intro b138 H146 h
 replace h:=hR140 b138 H146 h
 refine GL.nil (Yd h (fun hc147 h=>?_) fun hc147 h=>?_)
 refine Zo (Za (GL.nil ?_))
 exact Y1 I3 ⟨false,rfl,h⟩
 refine GC.skip (GC.seq (Zo (Za (GL.nil (GC.block (Yp h (fun x148=>[(15,.int .i64 x148),(5,pv (some (b17,0))),(12,pv (some (b96,0)))]) ?_))))))
 intro x148 H150 J149 h
 refine GC.seq (Zo (Zm (Zf (Yl h fun x151 h=>?_))))
 refine Zq (Zi (.bool (decide ((x148:Int) < (Sl.len x151:Int)))) (GL.nil (Yd h (fun hc153 h=>?_) fun hc153 h=>?_)))
 refine GC.skip (GC.seq (GC.block (Zo (Za (GL.nil (GC.seq (Zo (Za (GL.nil (GC.block (Yp h (fun x154=>[(16,.int .i64 x154.1),(17,.int .i64 x154.2),(5,pv (some (b17,0))),(12,pv (some (b96,0))),(15,.int .i64 x148)]) ?_)))))))))))
 intro x154 H156 J155 h
 refine GC.seq (Zo (Zm (Zf (Yl h fun x157 h=>?_))))
 refine Zq (Zi (.bool (decide ((x154.2:Int) < (Sl.len x157:Int)))) (GL.nil (Yd h (fun hc159 h=>?_) fun hc159 h=>?_)))
 refine GC.skip ?_
 obtain ⟨J160,h,hR163⟩:=h
 refine GC.join (α:=Int) J160 (fun x161=>[(16,.int .i64 x161),(5,pv (some (b17,0))),(12,pv (some (b96,0))),(15,.int .i64 x148),(17,.int .i64 x154.2)]) ?_ ?_
 refine GC.block (GC.seq ?_)
 obtain ⟨J164,h,hR167⟩:=h
 refine GC.meet (α:=Bool) J164 (fun x165=>[(173,.bool x165),(5,pv (some (b17,0))),(12,pv (some (b96,0))),(15,.int .i64 x148),(16,.int .i64 x154.1),(17,.int .i64 x154.2)]) ?_ ?_
 obtain ⟨Hs168,hle169,h⟩:=h
 refine GC.any (Hs:=Hs168) (by kernel_rfl) hle169 (Zp 0 rfl Yf ?_)
 obtain ⟨x170,v171,h⟩:=h
 refine Zp 1 rfl (Yo v171) (Zp 2 rfl Ym ?_)
 obtain ⟨p172,ha173,hb174,hc175,hd176,h⟩:=h
 refine Zp 3 rfl (OV.indexAddr rfl rfl rfl rfl ha173 hb174 hc175 hd176) (Zp 4 rfl Yf ?_)
 obtain ⟨x177,v178,h⟩:=h
 refine Zp 5 rfl (Yo v178) (Zp 6 rfl Yf ?_)
 obtain ⟨x179,v180,h⟩:=h
 refine Zp 7 rfl (Yo v180) (Zp 8 rfl Ym ?_)
 obtain ⟨p181,ha182,hb183,hc184,hd185,h⟩:=h
 refine Zp 9 rfl (OV.indexAddr rfl rfl rfl rfl ha182 hb183 hc184 hd185) (Zp 10 rfl Yf ?_)
 obtain ⟨x186,v187,h⟩:=h
 refine Zp 11 rfl (Yo v187) (Zp 12 rfl (OV.sbin (a:=x177) (b:=x186) (v:=.bool (x177 == x186)) rfl rfl rfl) (Zp 13 rfl Ym ?_))
 rcases h.em with ⟨hc188,h⟩ | ⟨hc188,h⟩
 refine Zg 14 rfl (Yt hc188) Yf ?_
 obtain ⟨x189,v190,h⟩:=h
 refine Zg 15 rfl (Yt hc188) (Yo v190) (Zg 16 rfl (Yt hc188) Ym ?_)
 obtain ⟨p191,ha192,hb193,hc194,hd195,h⟩:=h
 refine Zg 17 rfl (Yt hc188) (OV.indexAddr rfl rfl rfl rfl ha192 hb193 hc194 hd195) (Zg 18 rfl (Yt hc188) Yf ?_)
 obtain ⟨x196,v197,h⟩:=h
 refine Zg 19 rfl (Yt hc188) (Yo v197) (Zg 20 rfl (Yt hc188) Yf ?_)
 obtain ⟨x198,v199,h⟩:=h
 refine Zg 21 rfl (Yt hc188) (Yo v199) (Zg 22 rfl (Yt hc188) Ym ?_)
 obtain ⟨p200,ha201,hb202,hc203,hd204,h⟩:=h
 refine Zg 23 rfl (Yt hc188) (OV.indexAddr rfl rfl rfl rfl ha201 hb202 hc203 hd204) (Zg 24 rfl (Yt hc188) Yf ?_)
 obtain ⟨x205,v206,h⟩:=h
 refine Zg 25 rfl (Yt hc188) (Yo v206) (GA.eff 26 rfl (by kernel_rfl) (GL.call h (Yt hc188) rfl QkU (vs:=[slv x196,slv x205]) rfl ?_))
 rintro _ H209 ⟨r208,rfl,h⟩
 obtain ⟨hle207,h⟩:=h
 refine GA.back hle207 (Zp 27 rfl (OV.pickT rfl hc188 rfl) (GA.done (by kernel_rfl) ?_))
 exact Yj I3 r208 h
 refine Zj 14 rfl (Yw hc188) (Zj 15 rfl (Yw hc188) (Zj 16 rfl (Yw hc188) (Zj 17 rfl (Yw hc188) (Zj 18 rfl (Yw hc188) (Zj 19 rfl (Yw hc188) (Zj 20 rfl (Yw hc188) (Zj 21 rfl (Yw hc188) (Zj 22 rfl (Yw hc188) (Zj 23 rfl (Yw hc188) (Zj 24 rfl (Yw hc188) (Zj 25 rfl (Yw hc188) (Zj 26 rfl (Yw hc188) (Zp 27 rfl (OV.pickF rfl hc188 rfl) (GA.done (by kernel_rfl) ?_))))))))))))))
 exact Yj I3 false h
 intro x165 H166 h
 replace h:=hR167 x165 H166 h
 refine GL.nil (Yd h (fun hc210 h=>?_) fun hc210 h=>?_)
 refine GC.region (Zm (Zi (.int .i64 (w .i64 (x154.1+1))) (Za ?_)))
 exact Yj I3 (w .i64 (x154.1+1)) h
 exact Yk I3 x154.1 h
 intro x161 H162 h
 replace h:=hR163 x161 H162 h
 refine GC.region (Zm (Zi (.int .i64 (w .i64 (x154.2+1))) (Za ?_)))
 exact Yj I3 (x161,(w .i64 (x154.2+1))) h
 refine GC.exit_to I3 (Zo (Zm (Zi (.bool ((x154.1:Int) != 1)) (GL.nil ?_))))
 refine Yd h (fun hc211 h=>?_) fun hc211 h=>?_
 refine Zo (Za (GL.nil ?_))
 exact Y1 I3 ⟨false,rfl,h⟩
 refine GC.skip_to I3 (GC.region (Zm (Zi (.int .i64 (w .i64 (x148+1))) (Za ?_))))
 exact Yj I3 (w .i64 (x148+1)) h
 refine GC.exit_to I3 (GC.seq (Zo (Za (GL.nil (GC.block (Yp h (fun x212=>[(18,.int .i64 x212),(5,pv (some (b17,0))),(12,pv (some (b96,0)))]) ?_))))))
 intro x212 H214 J213 h
 refine GC.seq (Zo (Zm (Zf (Yl h fun x215 h=>?_))))
 refine Zq (Zi (.bool (decide ((x212:Int) < (Sl.len x215:Int)))) (GL.nil (Yd h (fun hc217 h=>?_) fun hc217 h=>?_)))
 refine GC.skip (GC.seq (GC.block (Zo (Za (Za (GL.nil (GC.seq (Zo (Za (GL.nil (GC.block (Yp h (fun x218=>[(19,.int .i64 x218.1),(20,.int .i64 x218.2.1),(21,.int .i64 x218.2.2),(5,pv (some (b17,0))),(12,pv (some (b96,0))),(18,.int .i64 x212)]) ?_))))))))))))
 intro x218 H220 J219 h
 refine GC.seq (Zo (Zm (Zf (Yl h fun x221 h=>?_))))
 refine Zq (Zi (.bool (decide ((x218.2.2:Int) < (Sl.len x221:Int)))) (GL.nil (Yd h (fun hc223 h=>?_) fun hc223 h=>?_)))
 refine GC.skip ?_
 obtain ⟨J224,h,hR227⟩:=h
 refine GC.join (α:=Int×Int) J224 (fun x225=>[(19,.int .i64 x225.1),(20,.int .i64 x225.2),(5,pv (some (b17,0))),(12,pv (some (b96,0))),(18,.int .i64 x212),(21,.int .i64 x218.2.2)]) ?_ ?_
 refine GC.block ?_
 obtain ⟨J228,h,hR231⟩:=h
 refine GC.join (α:=Int) J228 (fun x229=>[(19,.int .i64 x229),(5,pv (some (b17,0))),(12,pv (some (b96,0))),(18,.int .i64 x212),(20,.int .i64 x218.2.1),(21,.int .i64 x218.2.2)]) ?_ ?_
 refine GC.seq ?_
 obtain ⟨Hs232,hle233,h⟩:=h
 refine GC.any (Hs:=Hs232) (by kernel_rfl) hle233 (Zp 0 rfl Yf ?_)
 obtain ⟨x234,v235,h⟩:=h
 refine Zp 1 rfl (Yo v235) (Zp 2 rfl Ym ?_)
 obtain ⟨p236,ha237,hb238,hc239,hd240,h⟩:=h
 refine Zp 3 rfl (OV.indexAddr rfl rfl rfl rfl ha237 hb238 hc239 hd240) ?_
 obtain ⟨x241,v242,h⟩:=h
 refine Zp 4 rfl (OV.loadT rfl rfl rfl v242) (Zp 5 rfl Yf ?_)
 obtain ⟨x243,v244,h⟩:=h
 refine Zp 6 rfl (Yo v244) (Zp 7 rfl Ym ?_)
 obtain ⟨p245,ha246,hb247,hc248,hd249,h⟩:=h
 refine Zp 8 rfl (OV.indexAddr rfl rfl rfl rfl ha246 hb247 hc248 hd249) ?_
 obtain ⟨x250,v251,h⟩:=h
 refine Zp 9 rfl (OV.loadT rfl rfl rfl v251) (GA.eff 10 rfl (by kernel_rfl) (Zc h QhA ?_))
 rintro _ H254 ⟨r253,rfl,h⟩
 obtain ⟨hle252,h⟩:=h
 refine GA.back hle252 (GA.done (by kernel_rfl) (GL.nil (Yd h (fun hc255 h=>?_) fun hc255 h=>?_)))
 refine GC.region (Zm (Zi (.int .i64 (w .i64 (x218.1+1))) (Za ?_)))
 exact Yj I3 (w .i64 (x218.1+1)) h
 exact Yk I3 x218.1 h
 intro x229 H230 h
 replace h:=hR231 x229 H230 h
 refine GC.seq ?_
 obtain ⟨Hs256,hle257,h⟩:=h
 refine GC.any (Hs:=Hs256) (by kernel_rfl) hle257 (Zp 0 rfl Yf ?_)
 obtain ⟨x258,v259,h⟩:=h
 refine Zp 1 rfl (Yo v259) (Zp 2 rfl Ym ?_)
 obtain ⟨p260,ha261,hb262,hc263,hd264,h⟩:=h
 refine Zp 3 rfl (OV.indexAddr rfl rfl rfl rfl ha261 hb262 hc263 hd264) ?_
 obtain ⟨x265,v266,h⟩:=h
 refine Zp 4 rfl (OV.loadT rfl rfl rfl v266) (Zp 5 rfl Yf ?_)
 obtain ⟨x267,v268,h⟩:=h
 refine Zp 6 rfl (Yo v268) (Zp 7 rfl Ym ?_)
 obtain ⟨p269,ha270,hb271,hc272,hd273,h⟩:=h
 refine Zp 8 rfl (OV.indexAddr rfl rfl rfl rfl ha270 hb271 hc272 hd273) ?_
 obtain ⟨x274,v275,h⟩:=h
 refine Zp 9 rfl (OV.loadT rfl rfl rfl v275) (GA.eff 10 rfl (by kernel_rfl) (Zc h QhA ?_))
 rintro _ H278 ⟨r277,rfl,h⟩
 obtain ⟨hle276,h⟩:=h
 refine GA.back hle276 (GA.done (by kernel_rfl) (GL.nil (Yd h (fun hc279 h=>?_) fun hc279 h=>?_)))
 refine GC.region (Zm (Zi (.int .i64 (w .i64 (x218.2.1+1))) (Za ?_)))
 exact Yj I3 (x229,(w .i64 (x218.2.1+1))) h
 exact Yk I3 (x229,x218.2.1) h
 intro x225 H226 h
 replace h:=hR227 x225 H226 h
 refine GC.region (Zm (Zi (.int .i64 (w .i64 (x218.2.2+1))) (Za ?_)))
 exact Yj I3 (x225.1,x225.2,(w .i64 (x218.2.2+1))) h
 refine GC.exit_to I3 (Zo (Zm (Zm (Zi (.bool ((x218.1:Int) != x218.2.1)) (GL.nil ?_)))))
 refine Yd h (fun hc280 h=>?_) fun hc280 h=>?_
 refine Zo (Za (GL.nil ?_))
 exact Y1 I3 ⟨false,rfl,h⟩
 refine GC.skip_to I3 (GC.region (Zm (Zi (.int .i64 (w .i64 (x212+1))) (Za ?_))))
 exact Yj I3 (w .i64 (x212+1)) h
 refine GC.exit_to I3 (Zo (Za (GL.nil ?_)))
 exact Y1 I3 ⟨true,rfl,h⟩
def QhO (C:Ctx) (p_l:Sl) (K:Qa→Qi→Int→Heap→Prop) (H:Heap):Prop:=
 nw (Qa.c Qa.zero) (fun b1 H2=>
 nw (Qi.c Qi.zero) (fun b3 H4=>
 nw ([.int .i64 0]) (fun b5 H6=>
 ift (((Sl.len p_l:Int):Int) == 0)
 (stT (b1,0) (Qa.c (⟨[],Sl.nil,Sl.nil,Sl.nil,Sl.nil,Sl.nil⟩:Qa)) (fun H8=>
 stT (b3,0) (Qi.c (⟨[],Qo.zero⟩:Qi)) (fun H9=>
 st (b5,0) (.int .i64 1) (fun H10=>
 ldT H10 Qa.c (b1,0) fun x11=>ldT H10 Qi.c (b3,0) fun x13=>ldI H10 .i64 (b5,0) fun x15=>
 K x11 x13 x15 H10) H9) H8) H6)
 (ift (decide (((Sl.len p_l:Int):Int) > 8))
 (stT (b1,0) (Qa.c (⟨[],Sl.nil,Sl.nil,Sl.nil,Sl.nil,Sl.nil⟩:Qa)) (fun H18=>
 stT (b3,0) (Qi.c (⟨[],Qo.zero⟩:Qi)) (fun H19=>
 st (b5,0) (.int .i64 3) (fun H20=>
 ldT H20 Qa.c (b1,0) fun x21=>ldT H20 Qi.c (b3,0) fun x23=>ldI H20 .i64 (b5,0) fun x25=>
 K x21 x23 x25 H20) H19) H18) H6)
 (∃ E27:Value→Heap→Prop,(∀ v29 H30,E27 v29 H30→SpecD Tryz.prog C 21 [pv (some (b1,0)),pv (some (b3,0)),pv (some (b5,0))] (.panicking [⟨v29,false,false⟩]) H30 (fun u H31=>settle u=.returning∧
 ldT H31 Qa.c (b1,0) fun x32=>ldT H31 Qi.c (b3,0) fun x33=>ldI H31 .i64 (b5,0) fun x34=>
 K x32 x33 x34 H31))∧
 mkM (fun b35 H36=>
 nw (Q5.c (⟨p_l,(some b35)⟩:Q5)) (fun b37 H38=>
 Qb8 C E27 (some (b37,0)) (fun H39=>
 QbS C E27 (some (b37,0)) (fun H40=>
 lp (α:=Int) 0 H40 (fun x41 J42 H43=>
 ift (decide ((x41:Int) < (Sl.len p_l:Int)))
 (ixa p_l x41 fun p45=>
 ldT H43 Qa.c (p45.1,p45.2+(x41:Int).toNat*6) fun x50=>
 nw (Qa.c Qa.zero) (fun b52 H53=>
 stT (b52,0) (Qa.c x50) (fun H54=>
 ldT H54 Qa.c (b52,0) fun x55=>
 QcG C E27 (some (b37,0)) x55 (fun H57=>
 J42 (w .i64 (x41+1)) H57) H54) H53) H43)
 (Qb9 C E27 (some (b37,0)) (fun H58=>
 ixa p_l 0 fun p59=>
 ldS H58 ((p59.1,p59.2+(0:Int).toNat*6).1,(p59.1,p59.2+(0:Int).toNat*6).2+0) fun x64=>
 st ((b1,0).1,(b1,0).2+0) (sv x64) (fun H66=>
 lp (α:=Int) 0 H66 (fun x67 J68 H69=>
 ift (decide ((x67:Int) < (Sl.len p_l:Int)))
 (ixa p_l x67 fun p71=>
 ldT H69 Qa.c (p71.1,p71.2+(x67:Int).toNat*6) fun x76=>
 nw (Qa.c Qa.zero) (fun b78 H79=>
 stT (b78,0) (Qa.c x76) (fun H80=>
 ldT H80 Qa.c (b78,0) fun x81=>
 Qc2 C E27 (some (b37,0)) (some (b1,0)) x81 (fun H83=>
 J68 (w .i64 (x67+1)) H83) H80) H79) H69)
 (ldT H69 Qa.c (b1,0) fun x84=>
 stT (b1,0) (Qa.c x84) (fun H86=>
 stT (b3,0) (Qi.c (⟨[],Qo.zero⟩:Qi)) (fun H87=>
 st (b5,0) (.int .i64 0) (fun H88=>
 SpecD Tryz.prog C 21 [pv (some (b1,0)),pv (some (b3,0)),pv (some (b5,0))] .returning H88 (fun u H89=>u=.returning∧
 ldT H89 Qa.c (b1,0) fun x90=>ldT H89 Qi.c (b3,0) fun x91=>ldI H89 .i64 (b5,0) fun x92=>
 K x90 x91 x92 H89)) H87) H86) H69))) H58) H43))) H39) H38) H36) H6))) H4) H2) H
theorem QlH (C p_l K H) (h:QhO C p_l K H):Qcn C p_l K H:=by
 refine Spec.enterD Tryz.func12 rfl Tryz.ntmps12 rfl (GC.sub [(0,slv p_l)] ⟨rfl,trivial⟩ (Zo (GL.alloc (cs:=Qa.c Qa.zero) h trivial rfl rfl rfl ?_)))
 intro b1 H2 h
 refine GL.alloc (cs:=Qi.c Qi.zero) h trivial rfl rfl rfl ?_
 intro b3 H4 h
 refine GL.alloc (cs:=[.int .i64 0]) h trivial rfl rfl rfl ?_
 intro b5 H6 h
 refine GL.nil (GC.seq (GC.block (Zo (Zm (Zq (Zi (.bool (((Sl.len p_l:Int):Int) == 0)) (Za (GL.nil (Yd h (fun u7 h=>?_) fun u7 h=>?_)))))))))
 refine Zo (Zv (OV.build (vs:=[]) (v:=.agg (Qa.c (⟨[],Sl.nil,Sl.nil,Sl.nil,Sl.nil,Sl.nil⟩:Qa)).toArray) rfl (fun _=>by kernel_rfl)) (Zv (OV.build (vs:=[]) (v:=.agg (Qi.c (⟨[],Qo.zero⟩:Qi)).toArray) rfl (fun _=>by kernel_rfl)) (GL.storeT (p:=(b1,0)) (vs:=Qa.c (⟨[],Sl.nil,Sl.nil,Sl.nil,Sl.nil,Sl.nil⟩:Qa)) h trivial rfl rfl rfl rfl ?_)))
 intro H8 h
 refine GL.storeT (p:=(b3,0)) (vs:=Qi.c (⟨[],Qo.zero⟩:Qi)) h trivial rfl rfl rfl rfl ?_
 intro H9 h
 refine GL.store (p:=(b5,0)) (v:=.int .i64 1) h trivial rfl rfl rfl rfl ?_
 intro H10 h
 refine GL.nil ?_
 obtain ⟨x11,v12,h⟩:=h
 obtain ⟨x13,v14,h⟩:=h
 obtain ⟨x15,v16,h⟩:=h
 exact GC.ret (fun _ _ hf hs=>postD hf (QpL rfl (RV.cellT (p:=(b1,0)) (cs:=Qa.c x11) rfl rfl rfl v12) (RV.cellT (p:=(b3,0)) (cs:=Qi.c x13) rfl rfl rfl v14) (RV.cell (p:=(b5,0)) rfl rfl v16) hf hs ⟨x11,x13,x15,rfl,h⟩))
 refine Zo (Zm (Zq (Zi (.bool (decide (((Sl.len p_l:Int):Int) > 8))) (Za (GL.nil (Yd h (fun u17 h=>?_) fun u17 h=>?_))))))
 refine Zo (Zv (OV.build (vs:=[]) (v:=.agg (Qa.c (⟨[],Sl.nil,Sl.nil,Sl.nil,Sl.nil,Sl.nil⟩:Qa)).toArray) rfl (fun _=>by kernel_rfl)) (Zv (OV.build (vs:=[]) (v:=.agg (Qi.c (⟨[],Qo.zero⟩:Qi)).toArray) rfl (fun _=>by kernel_rfl)) (GL.storeT (p:=(b1,0)) (vs:=Qa.c (⟨[],Sl.nil,Sl.nil,Sl.nil,Sl.nil,Sl.nil⟩:Qa)) h trivial rfl rfl rfl rfl ?_)))
 intro H18 h
 refine GL.storeT (p:=(b3,0)) (vs:=Qi.c (⟨[],Qo.zero⟩:Qi)) h trivial rfl rfl rfl rfl ?_
 intro H19 h
 refine GL.store (p:=(b5,0)) (v:=.int .i64 3) h trivial rfl rfl rfl rfl ?_
 intro H20 h
 refine GL.nil ?_
 obtain ⟨x21,v22,h⟩:=h
 obtain ⟨x23,v24,h⟩:=h
 obtain ⟨x25,v26,h⟩:=h
 exact GC.ret (fun _ _ hf hs=>postD hf (QpL rfl (RV.cellT (p:=(b1,0)) (cs:=Qa.c x21) rfl rfl rfl v22) (RV.cellT (p:=(b3,0)) (cs:=Qi.c x23) rfl rfl rfl v24) (RV.cell (p:=(b5,0)) rfl rfl v26) hf hs ⟨x21,x23,x25,rfl,h⟩))
 refine GC.skip_to I3 (Zo (Zv (OV.makeFunc (vs:=[]) (us:=[pv (some (b1,0)),pv (some (b3,0)),pv (some (b5,0))]) rfl rfl) ?_))
 obtain ⟨E27,hE28,h⟩:=h
 refine GL.defer (f:=21) (cs:=[pv (some (b1,0)),pv (some (b3,0)),pv (some (b5,0))]) trivial rfl (GL.nil (Zo (Zm (GL.makeMap h trivial rfl ?_))))
 intro b35 H36 h
 refine Zv (OV.build (vs:=[(0,slv p_l),(1,mv (some b35))]) (v:=.agg (Q5.c (⟨p_l,(some b35)⟩:Q5)).toArray) rfl (fun _=>by kernel_rfl)) (GL.box (v:=.agg (Q5.c (⟨p_l,(some b35)⟩:Q5)).toArray) (cs:=Q5.c (⟨p_l,(some b35)⟩:Q5)) h trivial rfl rfl rfl ?_)
 intro b37 H38 h
 refine Za (GL.nil (Zo (Zm (GL.callP h (Qlr Qa.c Qi.c rfl rfl rfl rfl rfl (fun _=>rfl) rfl (fun _=>rfl) rfl Qa1 hE28) trivial rfl Qhy (vs:=[pv (some (b37,0))]) rfl ?_))))
 rintro _ H39 ⟨rfl,h⟩
 refine GL.nil (Zo (Zm (GL.callP h (Qlr Qa.c Qi.c rfl rfl rfl rfl rfl (fun _=>rfl) rfl (fun _=>rfl) rfl Qa1 hE28) trivial rfl QgW (vs:=[pv (some (b37,0))]) rfl ?_)))
 rintro _ H40 ⟨rfl,h⟩
 refine GL.nil (GC.seq (Zo (Zm (Zq (Zm (GL.nil (GC.block (Yp h (fun x41=>[(33,.int .i64 x41),(0,slv p_l),(2,pv (some (b1,0))),(3,pv (some (b3,0))),(4,pv (some (b5,0))),(5,pv (some (b37,0))),(31,slv p_l),(32,.int .i64 (Sl.len p_l:Int))]) ?_))))))))
 intro x41 H43 J42 h
 refine Zo (Zi (.bool (decide ((x41:Int) < (Sl.len p_l:Int)))) (GL.nil (GC.seq (Yd h (fun u44 h=>?_) fun u44 h=>?_))))
 refine GC.skip (GC.seq (GC.block (Zo (Yx h fun p45 h=>?_))))
 obtain ⟨x50,v51,h⟩:=h
 refine Zv (OV.loadT rfl rfl rfl v51) (GL.alloc (cs:=Qa.c Qa.zero) h trivial rfl rfl rfl ?_)
 intro b52 H53 h
 refine GL.storeT (p:=(b52,0)) (vs:=Qa.c x50) h trivial rfl rfl rfl rfl ?_
 intro H54 h
 refine GL.nil (GC.region (Zm ?_))
 obtain ⟨x55,v56,h⟩:=h
 refine Zv (OV.loadT rfl rfl rfl v56) (GL.callP h (Qlr Qa.c Qi.c rfl rfl rfl rfl rfl (fun _=>rfl) rfl (fun _=>rfl) rfl Qa1 hE28) trivial rfl Qil (vs:=[pv (some (b37,0)),.agg (Qa.c x55).toArray]) rfl ?_)
 rintro _ H57 ⟨rfl,h⟩
 refine GL.nil_to I3 (GC.region (Zi (.int .i64 (w .i64 (x41+1))) (Zm ?_)))
 exact Yj I3 (w .i64 (x41+1)) h
 refine GC.exit_to I3 (Zo (Zm (GL.callP h (Qlr Qa.c Qi.c rfl rfl rfl rfl rfl (fun _=>rfl) rfl (fun _=>rfl) rfl Qa1 hE28) trivial rfl Qhz (vs:=[pv (some (b37,0))]) rfl ?_)))
 rintro _ H58 ⟨rfl,h⟩
 refine GL.nil (Zo (Zm (Yx h fun p59 h=>?_)))
 refine Zf (Yl h fun x64 h=>?_)
 refine Zf (GL.store (p:=((b1,0).1,(b1,0).2+0)) (v:=sv x64) h trivial rfl rfl rfl rfl ?_)
 intro H66 h
 refine GL.nil (GC.seq (Zo (Zm (Zq (Zm (GL.nil (GC.block (Yp h (fun x67=>[(50,.int .i64 x67),(2,pv (some (b1,0))),(3,pv (some (b3,0))),(4,pv (some (b5,0))),(5,pv (some (b37,0))),(48,slv p_l),(49,.int .i64 (Sl.len p_l:Int))]) ?_))))))))
 intro x67 H69 J68 h
 refine Zo (Zi (.bool (decide ((x67:Int) < (Sl.len p_l:Int)))) (GL.nil (GC.seq (Yd h (fun u70 h=>?_) fun u70 h=>?_))))
 refine GC.skip (GC.seq (GC.block (Zo (Yx h fun p71 h=>?_))))
 obtain ⟨x76,v77,h⟩:=h
 refine Zv (OV.loadT rfl rfl rfl v77) (GL.alloc (cs:=Qa.c Qa.zero) h trivial rfl rfl rfl ?_)
 intro b78 H79 h
 refine GL.storeT (p:=(b78,0)) (vs:=Qa.c x76) h trivial rfl rfl rfl rfl ?_
 intro H80 h
 refine GL.nil (GC.region (Zm ?_))
 obtain ⟨x81,v82,h⟩:=h
 refine Zv (OV.loadT rfl rfl rfl v82) (GL.callP h (Qlr Qa.c Qi.c rfl rfl rfl rfl rfl (fun _=>rfl) rfl (fun _=>rfl) rfl Qa1 hE28) trivial rfl QiW (vs:=[pv (some (b37,0)),pv (some (b1,0)),.agg (Qa.c x81).toArray]) rfl ?_)
 rintro _ H83 ⟨rfl,h⟩
 refine GL.nil_to I3 (GC.region (Zi (.int .i64 (w .i64 (x67+1))) (Zm ?_)))
 exact Yj I3 (w .i64 (x67+1)) h
 refine GC.exit_to I3 (Zo ?_)
 obtain ⟨x84,v85,h⟩:=h
 refine Zv (OV.loadT rfl rfl rfl v85) (Zv (OV.build (vs:=[]) (v:=.agg (Qi.c (⟨[],Qo.zero⟩:Qi)).toArray) rfl (fun _=>by kernel_rfl)) (GL.storeT (p:=(b1,0)) (vs:=Qa.c x84) h trivial rfl rfl rfl rfl ?_))
 intro H86 h
 refine GL.storeT (p:=(b3,0)) (vs:=Qi.c (⟨[],Qo.zero⟩:Qi)) h trivial rfl rfl rfl rfl ?_
 intro H87 h
 refine GL.store (p:=(b5,0)) (v:=.int .i64 0) h trivial rfl rfl rfl rfl ?_
 intro H88 h
 refine GL.nil ?_
 exact GC.ret (fun _ _ hf hs=>Qtt Qa.c Qi.c rfl rfl rfl rfl rfl (fun _=>rfl) rfl (fun _=>rfl) rfl Qa1 hf hs h)
def Qkt (C:Ctx) (K:Bool→Heap→Prop) (H:Heap):Prop:=
 nw ((Qf.c (⟨[120],(⟨[105,110,116],Sl.nil⟩:Qd)⟩:Qf))++[]) (fun b1 H2=>
 nw ((Qb.c (⟨2,Qo.zero,[88],Qe.zero,Sl.nil⟩:Qb))++[]) (fun b3 H4=>
 nw ((Qp.c (⟨Qo.zero,[98,97,115,101]⟩:Qp))++[]) (fun b5 H6=>
 nw ((Qh.c (⟨Qo.zero,false,false,[112],(Sl.of (some (b1,0)) 1 1)⟩:Qh))++[]) (fun b7 H8=>
 nw ([sv []]) (fun b9 H10=>
 nw ((Qk.c (⟨1,Qo.zero,[98,97,115,101,46,101],(Sl.of (some (b3,0)) 1 1)⟩:Qk))++[]) (fun b11 H12=>
 nw ((Qj.c (⟨Qo.zero,[112],(Sl.of (some (b3,0)) 1 1),(Sl.of (some (b9,0)) 1 1),(Sl.of (some (b11,0)) 1 1)⟩:Qj))++[]) (fun b13 H14=>
 nw ((Qh.c (⟨Qo.zero,true,true,[101],(Sl.of (some (b1,0)) 1 1)⟩:Qh))++[]) (fun b15 H16=>
 nw ((Qa.c (⟨[103,114,97,112,104],(Sl.of (some (b5,0)) 1 1),Sl.nil,(Sl.of (some (b7,0)) 1 1),(Sl.of (some (b13,0)) 1 1),Sl.nil⟩:Qa))++(Qa.c (⟨[98,97,115,101],Sl.nil,Sl.nil,(Sl.of (some (b15,0)) 1 1),Sl.nil,Sl.nil⟩:Qa))++[]) (fun b17 H18=>
 Qcn C (Sl.of (some (b17,0)) 2 2) (fun r19 r20 r21 H22=>
 nw (Qa.c Qa.zero) (fun b23 H24=>
 nw (Qi.c Qi.zero) (fun b25 H26=>
 stT (b23,0) (Qa.c r19) (fun H27=>
 stT (b25,0) (Qi.c r20) (fun H28=>
 jn (α:=Bool) (fun b29 H35=>
 jn (α:=Bool) (fun b36 H42=>
 jn (α:=Bool) (fun b43 H49=>
 jn (α:=Bool) (fun b50 H56=>
 jn (α:=Bool) (fun b57 H70=>
 jn (α:=Bool) (fun b71 H84=>
 jn (α:=Bool) (fun b85 H98=>
 jn (α:=Bool) (fun b99 H105=>
 jn (α:=Bool) (fun b106 H119=>
 jn (α:=Bool) (fun b120 H140=>
 jn (α:=Bool) (fun b141 H154=>
 K b141 H154)
 (fun J142=>ift b120
 (ldL H140 ((b23,0).1,(b23,0).2+4) fun x145=>
 ixa x145 0 fun p147=>
 ldL H140 ((p147.1,p147.2+(0:Int).toNat*6).1,(p147.1,p147.2+(0:Int).toNat*6).2+3) fun x152=>
 J142 (((Sl.len x152:Int):Int) == 1) H140)
 (J142 false H140)))
 (fun J121=>ift b106
 (ldL H119 ((b23,0).1,(b23,0).2+4) fun x124=>
 ixa x124 0 fun p126=>
 ldL H119 ((p126.1,p126.2+(0:Int).toNat*6).1,(p126.1,p126.2+(0:Int).toNat*6).2+5) fun x131=>
 ixa x131 0 fun p133=>
 ldS H119 ((p133.1,p133.2+(0:Int).toNat*5).1,(p133.1,p133.2+(0:Int).toNat*5).2+3) fun x138=>
 J121 (x138 == ([98,97,115,101,46,101]:Str)) H119)
 (J121 false H119)))
 (fun J107=>ift b99
 (ldL H105 ((b23,0).1,(b23,0).2+4) fun x110=>
 ixa x110 0 fun p112=>
 ldS H105 ((p112.1,p112.2+(0:Int).toNat*6).1,(p112.1,p112.2+(0:Int).toNat*6).2+2) fun x117=>
 J107 (x117 == ([103,114,97,112,104,46,112]:Str)) H105)
 (J107 false H105)))
 (fun J100=>ift b85
 (ldL H98 ((b23,0).1,(b23,0).2+4) fun x103=>
 J100 (((Sl.len x103:Int):Int) == 1) H98)
 (J100 false H98)))
 (fun J86=>ift b71
 (ldL H84 ((b23,0).1,(b23,0).2+3) fun x89=>
 ixa x89 1 fun p91=>
 ldB H84 ((p91.1,p91.2+(1:Int).toNat*6).1,(p91.1,p91.2+(1:Int).toNat*6).2+3) fun x96=>
 J86 x96 H84)
 (J86 false H84)))
 (fun J72=>ift b57
 (ldL H70 ((b23,0).1,(b23,0).2+3) fun x75=>
 ixa x75 1 fun p77=>
 ldS H70 ((p77.1,p77.2+(1:Int).toNat*6).1,(p77.1,p77.2+(1:Int).toNat*6).2+4) fun x82=>
 J72 (x82 == ([98,97,115,101,46,101]:Str)) H70)
 (J72 false H70)))
 (fun J58=>ift b50
 (ldL H56 ((b23,0).1,(b23,0).2+3) fun x61=>
 ixa x61 0 fun p63=>
 ldS H56 ((p63.1,p63.2+(0:Int).toNat*6).1,(p63.1,p63.2+(0:Int).toNat*6).2+4) fun x68=>
 J58 (x68 == ([103,114,97,112,104,46,112]:Str)) H56)
 (J58 false H56)))
 (fun J51=>ift b43
 (ldL H49 ((b23,0).1,(b23,0).2+3) fun x54=>
 J51 (((Sl.len x54:Int):Int) == 2) H49)
 (J51 false H49)))
 (fun J44=>ift b36
 (ldL H42 ((b23,0).1,(b23,0).2+1) fun x47=>
 J44 (((Sl.len x47:Int):Int) == 0) H42)
 (J44 false H42)))
 (fun J37=>ift b29
 (ldS H35 ((b23,0).1,(b23,0).2+0) fun x40=>
 J37 (x40 == ([103,114,97,112,104]:Str)) H35)
 (J37 false H35)))
 (fun J30=>ift ((r21:Int) == 0)
 (ldT H28 Qi.c (b25,0) fun x33=>
 J30 (csEq (Qi.c x33) (Qi.c (⟨[],Qo.zero⟩:Qi))) H28)
 (J30 false H28))) H27) H26) H24) H22) H18) H16) H14) H12) H10) H8) H6) H4) H2) H
theorem QnG (C:Ctx) (K:Bool→Heap→Prop) (H:Heap) (h:Qkt C  K H):QfL C  K H:=by
 refine Spec.enter Tryz.func13 rfl Tryz.ntmps13 rfl (GC.sub [] trivial (Zo (Za (GL.nil (Zo (Zv (OV.build (vs:=[(0,sv [105,110,116])]) (v:=.agg (Qd.c (⟨[105,110,116],Sl.nil⟩:Qd)).toArray) rfl (fun _=>by kernel_rfl)) (Zv (OV.build (vs:=[(0,sv [120]),(1,.agg (Qd.c (⟨[105,110,116],Sl.nil⟩:Qd)).toArray)]) (v:=.agg (Qf.c (⟨[120],(⟨[105,110,116],Sl.nil⟩:Qd)⟩:Qf)).toArray) rfl (fun _=>by kernel_rfl)) (GL.buildSlice (cs:=(Qf.c (⟨[120],(⟨[105,110,116],Sl.nil⟩:Qd)⟩:Qf))++[]) h trivial rfl (vs:=[(0,.agg (Qf.c (⟨[120],(⟨[105,110,116],Sl.nil⟩:Qd)⟩:Qf)).toArray)]) rfl ⟨31,fun _=>by kernel_rfl⟩ ?_))))))))
 intro b1 H2 h
 refine Za (GL.nil (Zo (Zv (OV.build (vs:=[(0,.int .u8 2),(2,sv [88])]) (v:=.agg (Qb.c (⟨2,Qo.zero,[88],Qe.zero,Sl.nil⟩:Qb)).toArray) rfl (fun _=>by kernel_rfl)) (GL.buildSlice (cs:=(Qb.c (⟨2,Qo.zero,[88],Qe.zero,Sl.nil⟩:Qb))++[]) h trivial rfl (vs:=[(0,.agg (Qb.c (⟨2,Qo.zero,[88],Qe.zero,Sl.nil⟩:Qb)).toArray)]) rfl ⟨40,fun _=>by kernel_rfl⟩ ?_))))
 intro b3 H4 h
 refine Za (GL.nil (Zo (Zv (OV.build (vs:=[(1,sv [98,97,115,101])]) (v:=.agg (Qp.c (⟨Qo.zero,[98,97,115,101]⟩:Qp)).toArray) rfl (fun _=>by kernel_rfl)) (GL.buildSlice (cs:=(Qp.c (⟨Qo.zero,[98,97,115,101]⟩:Qp))++[]) h trivial rfl (vs:=[(0,.agg (Qp.c (⟨Qo.zero,[98,97,115,101]⟩:Qp)).toArray)]) rfl ⟨48,fun _=>by kernel_rfl⟩ ?_))))
 intro b5 H6 h
 refine Zm (Zv (OV.build (vs:=[(3,sv [112]),(4,slv (Sl.of (some (b1,0)) 1 1))]) (v:=.agg (Qh.c (⟨Qo.zero,false,false,[112],(Sl.of (some (b1,0)) 1 1)⟩:Qh)).toArray) rfl (fun _=>by kernel_rfl)) (GL.buildSlice (cs:=(Qh.c (⟨Qo.zero,false,false,[112],(Sl.of (some (b1,0)) 1 1)⟩:Qh))++[]) h trivial rfl (vs:=[(0,.agg (Qh.c (⟨Qo.zero,false,false,[112],(Sl.of (some (b1,0)) 1 1)⟩:Qh)).toArray)]) rfl ⟨29,fun _=>by kernel_rfl⟩ ?_))
 intro b7 H8 h
 refine Zm (GL.buildSlice (cs:=[sv []]) h trivial rfl (vs:=[(0,sv [])]) rfl ⟨9,fun _=>by kernel_rfl⟩ ?_)
 intro b9 H10 h
 refine Zm (Zv (OV.build (vs:=[(0,.int .u8 1),(2,sv [98,97,115,101,46,101]),(3,slv (Sl.of (some (b3,0)) 1 1))]) (v:=.agg (Qk.c (⟨1,Qo.zero,[98,97,115,101,46,101],(Sl.of (some (b3,0)) 1 1)⟩:Qk)).toArray) rfl (fun _=>by kernel_rfl)) (GL.buildSlice (cs:=(Qk.c (⟨1,Qo.zero,[98,97,115,101,46,101],(Sl.of (some (b3,0)) 1 1)⟩:Qk))++[]) h trivial rfl (vs:=[(0,.agg (Qk.c (⟨1,Qo.zero,[98,97,115,101,46,101],(Sl.of (some (b3,0)) 1 1)⟩:Qk)).toArray)]) rfl ⟨35,fun _=>by kernel_rfl⟩ ?_))
 intro b11 H12 h
 refine Zv (OV.build (vs:=[(1,sv [112]),(2,slv (Sl.of (some (b3,0)) 1 1)),(3,slv (Sl.of (some (b9,0)) 1 1)),(4,slv (Sl.of (some (b11,0)) 1 1))]) (v:=.agg (Qj.c (⟨Qo.zero,[112],(Sl.of (some (b3,0)) 1 1),(Sl.of (some (b9,0)) 1 1),(Sl.of (some (b11,0)) 1 1)⟩:Qj)).toArray) rfl (fun _=>by kernel_rfl)) (GL.buildSlice (cs:=(Qj.c (⟨Qo.zero,[112],(Sl.of (some (b3,0)) 1 1),(Sl.of (some (b9,0)) 1 1),(Sl.of (some (b11,0)) 1 1)⟩:Qj))++[]) h trivial rfl (vs:=[(0,.agg (Qj.c (⟨Qo.zero,[112],(Sl.of (some (b3,0)) 1 1),(Sl.of (some (b9,0)) 1 1),(Sl.of (some (b11,0)) 1 1)⟩:Qj)).toArray)]) rfl ⟨45,fun _=>by kernel_rfl⟩ ?_)
 intro b13 H14 h
 refine Zv (OV.build (vs:=[(0,sv [103,114,97,112,104]),(1,slv (Sl.of (some (b5,0)) 1 1)),(3,slv (Sl.of (some (b7,0)) 1 1)),(4,slv (Sl.of (some (b13,0)) 1 1))]) (v:=.agg (Qa.c (⟨[103,114,97,112,104],(Sl.of (some (b5,0)) 1 1),Sl.nil,(Sl.of (some (b7,0)) 1 1),(Sl.of (some (b13,0)) 1 1),Sl.nil⟩:Qa)).toArray) rfl (fun _=>by kernel_rfl)) (Zm (Zv (OV.build (vs:=[(1,.bool true),(2,.bool true),(3,sv [101]),(4,slv (Sl.of (some (b1,0)) 1 1))]) (v:=.agg (Qh.c (⟨Qo.zero,true,true,[101],(Sl.of (some (b1,0)) 1 1)⟩:Qh)).toArray) rfl (fun _=>by kernel_rfl)) (GL.buildSlice (cs:=(Qh.c (⟨Qo.zero,true,true,[101],(Sl.of (some (b1,0)) 1 1)⟩:Qh))++[]) h trivial rfl (vs:=[(0,.agg (Qh.c (⟨Qo.zero,true,true,[101],(Sl.of (some (b1,0)) 1 1)⟩:Qh)).toArray)]) rfl ⟨29,fun _=>by kernel_rfl⟩ ?_)))
 intro b15 H16 h
 refine Zv (OV.build (vs:=[(0,sv [98,97,115,101]),(3,slv (Sl.of (some (b15,0)) 1 1))]) (v:=.agg (Qa.c (⟨[98,97,115,101],Sl.nil,Sl.nil,(Sl.of (some (b15,0)) 1 1),Sl.nil,Sl.nil⟩:Qa)).toArray) rfl (fun _=>by kernel_rfl)) (GL.buildSlice (cs:=(Qa.c (⟨[103,114,97,112,104],(Sl.of (some (b5,0)) 1 1),Sl.nil,(Sl.of (some (b7,0)) 1 1),(Sl.of (some (b13,0)) 1 1),Sl.nil⟩:Qa))++(Qa.c (⟨[98,97,115,101],Sl.nil,Sl.nil,(Sl.of (some (b15,0)) 1 1),Sl.nil,Sl.nil⟩:Qa))++[]) h trivial rfl (vs:=[(0,.agg (Qa.c (⟨[103,114,97,112,104],(Sl.of (some (b5,0)) 1 1),Sl.nil,(Sl.of (some (b7,0)) 1 1),(Sl.of (some (b13,0)) 1 1),Sl.nil⟩:Qa)).toArray),(1,.agg (Qa.c (⟨[98,97,115,101],Sl.nil,Sl.nil,(Sl.of (some (b15,0)) 1 1),Sl.nil,Sl.nil⟩:Qa)).toArray)]) rfl ⟨55,fun _=>by kernel_rfl⟩ ?_)
 intro b17 H18 h
 refine Zc h Qe0 ?_
 rintro _ H22 ⟨r19,r20,r21,rfl,h⟩
 refine Zm (Yv (.agg (Qa.c r19).toArray) rfl rfl (Yv (.agg (Qi.c r20).toArray) rfl rfl (Yv (.int .i64 r21) rfl rfl (GL.alloc (cs:=Qa.c Qa.zero) h trivial rfl rfl rfl ?_))))
 intro b23 H24 h
 refine GL.alloc (cs:=Qi.c Qi.zero) h trivial rfl rfl rfl ?_
 intro b25 H26 h
 refine GL.storeT (p:=(b23,0)) (vs:=Qa.c r19) h trivial rfl rfl rfl rfl ?_
 intro H27 h
 refine GL.storeT (p:=(b25,0)) (vs:=Qi.c r20) h trivial rfl rfl rfl rfl ?_
 intro H28 h
 refine Za (GL.nil (Zo (Zm (Zi (.bool ((r21:Int) == 0)) (Zm ?_)))))
 obtain ⟨J30,h,hR31⟩:=h
 refine GL.cut (α:=Bool) 4 J30 (fun b29=>[(40,.bool b29),(3,pv (some (b23,0)))]) ?_ ?_
 rcases h.em with ⟨hc32,h⟩ | ⟨hc32,h⟩
 obtain ⟨x33,v34,h⟩:=h
 refine Zu hc32 (OV.loadT rfl rfl rfl v34) (Zu hc32 (OV.build (vs:=[]) (v:=.agg (Qi.c (⟨[],Qo.zero⟩:Qi)).toArray) rfl (fun _=>by kernel_rfl)) (Zu hc32 (OV.eqlT (a:=Qi.c x33) (b:=Qi.c (⟨[],Qo.zero⟩:Qi)) [.str,.int .i64,.int .i64] rfl rfl (by kernel_rfl) (by kernel_rfl) (by kernel_rfl) (Qhv _) (Qhv _) (fun _=>by kernel_rfl)) (Zt hc32 ?_)))
 exact Yj I3 (csEq (Qi.c x33) (Qi.c (⟨[],Qo.zero⟩:Qi))) h
 refine Zk hc32 (Zk hc32 (Zk hc32 (Zn hc32 ?_)))
 exact Yj I3 false h
 intro b29 H35 h
 replace h:=hR31 b29 H35 h
 refine Zm ?_
 obtain ⟨J37,h,hR38⟩:=h
 refine GL.cut (α:=Bool) 4 J37 (fun b36=>[(45,.bool b36),(3,pv (some (b23,0)))]) ?_ ?_
 rcases h.em with ⟨hc39,h⟩ | ⟨hc39,h⟩
 refine Zu hc39 Yf ?_
 obtain ⟨x40,v41,h⟩:=h
 refine Zu hc39 (Yo v41) (Zu hc39 (OV.sbin (a:=x40) (b:=([103,114,97,112,104]:Str)) (v:=.bool (x40 == ([103,114,97,112,104]:Str))) rfl rfl rfl) (Zt hc39 ?_))
 exact Yj I3 (x40 == ([103,114,97,112,104]:Str)) h
 refine Zk hc39 (Zk hc39 (Zk hc39 (Zn hc39 ?_)))
 exact Yj I3 false h
 intro b36 H42 h
 replace h:=hR38 b36 H42 h
 refine Zm ?_
 obtain ⟨J44,h,hR45⟩:=h
 refine GL.cut (α:=Bool) 5 J44 (fun b43=>[(51,.bool b43),(3,pv (some (b23,0)))]) ?_ ?_
 rcases h.em with ⟨hc46,h⟩ | ⟨hc46,h⟩
 refine Zu hc46 Yf ?_
 obtain ⟨x47,v48,h⟩:=h
 refine Zu hc46 (Yo v48) (Zu hc46 (OV.lenSl rfl rfl) (Zu hc46 (OV.ibin (v:=.bool (((Sl.len x47:Int):Int) == 0)) rfl rfl rfl) (Zt hc46 ?_)))
 exact Yj I3 (((Sl.len x47:Int):Int) == 0) h
 refine Zk hc46 (Zk hc46 (Zk hc46 (Zk hc46 (Zn hc46 ?_))))
 exact Yj I3 false h
 intro b43 H49 h
 replace h:=hR45 b43 H49 h
 refine Zm ?_
 obtain ⟨J51,h,hR52⟩:=h
 refine GL.cut (α:=Bool) 5 J51 (fun b50=>[(57,.bool b50),(3,pv (some (b23,0)))]) ?_ ?_
 rcases h.em with ⟨hc53,h⟩ | ⟨hc53,h⟩
 refine Zu hc53 Yf ?_
 obtain ⟨x54,v55,h⟩:=h
 refine Zu hc53 (Yo v55) (Zu hc53 (OV.lenSl rfl rfl) (Zu hc53 (OV.ibin (v:=.bool (((Sl.len x54:Int):Int) == 2)) rfl rfl rfl) (Zt hc53 ?_)))
 exact Yj I3 (((Sl.len x54:Int):Int) == 2) h
 refine Zk hc53 (Zk hc53 (Zk hc53 (Zk hc53 (Zn hc53 ?_))))
 exact Yj I3 false h
 intro b50 H56 h
 replace h:=hR52 b50 H56 h
 refine Zm ?_
 obtain ⟨J58,h,hR59⟩:=h
 refine GL.cut (α:=Bool) 7 J58 (fun b57=>[(65,.bool b57),(3,pv (some (b23,0)))]) ?_ ?_
 rcases h.em with ⟨hc60,h⟩ | ⟨hc60,h⟩
 refine Zu hc60 Yf ?_
 obtain ⟨x61,v62,h⟩:=h
 refine Zu hc60 (Yo v62) ?_
 obtain ⟨p63,ha64,hb65,hc66,hd67,h⟩:=h
 refine Zu hc60 (OV.indexAddr rfl rfl rfl rfl ha64 hb65 hc66 hd67) (Zu hc60 Yf ?_)
 obtain ⟨x68,v69,h⟩:=h
 refine Zu hc60 (Yo v69) (Zu hc60 (OV.sbin (a:=x68) (b:=([103,114,97,112,104,46,112]:Str)) (v:=.bool (x68 == ([103,114,97,112,104,46,112]:Str))) rfl rfl rfl) (Zt hc60 ?_))
 exact Yj I3 (x68 == ([103,114,97,112,104,46,112]:Str)) h
 refine Zk hc60 (Zk hc60 (Zk hc60 (Zk hc60 (Zk hc60 (Zk hc60 (Zn hc60 ?_))))))
 exact Yj I3 false h
 intro b57 H70 h
 replace h:=hR59 b57 H70 h
 refine Zm ?_
 obtain ⟨J72,h,hR73⟩:=h
 refine GL.cut (α:=Bool) 7 J72 (fun b71=>[(73,.bool b71),(3,pv (some (b23,0)))]) ?_ ?_
 rcases h.em with ⟨hc74,h⟩ | ⟨hc74,h⟩
 refine Zu hc74 Yf ?_
 obtain ⟨x75,v76,h⟩:=h
 refine Zu hc74 (Yo v76) ?_
 obtain ⟨p77,ha78,hb79,hc80,hd81,h⟩:=h
 refine Zu hc74 (OV.indexAddr rfl rfl rfl rfl ha78 hb79 hc80 hd81) (Zu hc74 Yf ?_)
 obtain ⟨x82,v83,h⟩:=h
 refine Zu hc74 (Yo v83) (Zu hc74 (OV.sbin (a:=x82) (b:=([98,97,115,101,46,101]:Str)) (v:=.bool (x82 == ([98,97,115,101,46,101]:Str))) rfl rfl rfl) (Zt hc74 ?_))
 exact Yj I3 (x82 == ([98,97,115,101,46,101]:Str)) h
 refine Zk hc74 (Zk hc74 (Zk hc74 (Zk hc74 (Zk hc74 (Zk hc74 (Zn hc74 ?_))))))
 exact Yj I3 false h
 intro b71 H84 h
 replace h:=hR73 b71 H84 h
 refine Zm ?_
 obtain ⟨J86,h,hR87⟩:=h
 refine GL.cut (α:=Bool) 6 J86 (fun b85=>[(80,.bool b85),(3,pv (some (b23,0)))]) ?_ ?_
 rcases h.em with ⟨hc88,h⟩ | ⟨hc88,h⟩
 refine Zu hc88 Yf ?_
 obtain ⟨x89,v90,h⟩:=h
 refine Zu hc88 (Yo v90) ?_
 obtain ⟨p91,ha92,hb93,hc94,hd95,h⟩:=h
 refine Zu hc88 (OV.indexAddr rfl rfl rfl rfl ha92 hb93 hc94 hd95) (Zu hc88 Yf ?_)
 obtain ⟨x96,v97,h⟩:=h
 refine Zu hc88 (Yo v97) (Zt hc88 ?_)
 exact Yj I3 x96 h
 refine Zk hc88 (Zk hc88 (Zk hc88 (Zk hc88 (Zk hc88 (Zn hc88 ?_)))))
 exact Yj I3 false h
 intro b85 H98 h
 replace h:=hR87 b85 H98 h
 refine Zm ?_
 obtain ⟨J100,h,hR101⟩:=h
 refine GL.cut (α:=Bool) 5 J100 (fun b99=>[(86,.bool b99),(3,pv (some (b23,0)))]) ?_ ?_
 rcases h.em with ⟨hc102,h⟩ | ⟨hc102,h⟩
 refine Zu hc102 Yf ?_
 obtain ⟨x103,v104,h⟩:=h
 refine Zu hc102 (Yo v104) (Zu hc102 (OV.lenSl rfl rfl) (Zu hc102 (OV.ibin (v:=.bool (((Sl.len x103:Int):Int) == 1)) rfl rfl rfl) (Zt hc102 ?_)))
 exact Yj I3 (((Sl.len x103:Int):Int) == 1) h
 refine Zk hc102 (Zk hc102 (Zk hc102 (Zk hc102 (Zn hc102 ?_))))
 exact Yj I3 false h
 intro b99 H105 h
 replace h:=hR101 b99 H105 h
 refine Zm ?_
 obtain ⟨J107,h,hR108⟩:=h
 refine GL.cut (α:=Bool) 7 J107 (fun b106=>[(94,.bool b106),(3,pv (some (b23,0)))]) ?_ ?_
 rcases h.em with ⟨hc109,h⟩ | ⟨hc109,h⟩
 refine Zu hc109 Yf ?_
 obtain ⟨x110,v111,h⟩:=h
 refine Zu hc109 (Yo v111) ?_
 obtain ⟨p112,ha113,hb114,hc115,hd116,h⟩:=h
 refine Zu hc109 (OV.indexAddr rfl rfl rfl rfl ha113 hb114 hc115 hd116) (Zu hc109 Yf ?_)
 obtain ⟨x117,v118,h⟩:=h
 refine Zu hc109 (Yo v118) (Zu hc109 (OV.sbin (a:=x117) (b:=([103,114,97,112,104,46,112]:Str)) (v:=.bool (x117 == ([103,114,97,112,104,46,112]:Str))) rfl rfl rfl) (Zt hc109 ?_))
 exact Yj I3 (x117 == ([103,114,97,112,104,46,112]:Str)) h
 refine Zk hc109 (Zk hc109 (Zk hc109 (Zk hc109 (Zk hc109 (Zk hc109 (Zn hc109 ?_))))))
 exact Yj I3 false h
 intro b106 H119 h
 replace h:=hR108 b106 H119 h
 refine Zm ?_
 obtain ⟨J121,h,hR122⟩:=h
 refine GL.cut (α:=Bool) 10 J121 (fun b120=>[(105,.bool b120),(3,pv (some (b23,0)))]) ?_ ?_
 rcases h.em with ⟨hc123,h⟩ | ⟨hc123,h⟩
 refine Zu hc123 Yf ?_
 obtain ⟨x124,v125,h⟩:=h
 refine Zu hc123 (Yo v125) ?_
 obtain ⟨p126,ha127,hb128,hc129,hd130,h⟩:=h
 refine Zu hc123 (OV.indexAddr rfl rfl rfl rfl ha127 hb128 hc129 hd130) (Zu hc123 Yf ?_)
 obtain ⟨x131,v132,h⟩:=h
 refine Zu hc123 (Yo v132) ?_
 obtain ⟨p133,ha134,hb135,hc136,hd137,h⟩:=h
 refine Zu hc123 (OV.indexAddr rfl rfl rfl rfl ha134 hb135 hc136 hd137) (Zu hc123 Yf ?_)
 obtain ⟨x138,v139,h⟩:=h
 refine Zu hc123 (Yo v139) (Zu hc123 (OV.sbin (a:=x138) (b:=([98,97,115,101,46,101]:Str)) (v:=.bool (x138 == ([98,97,115,101,46,101]:Str))) rfl rfl rfl) (Zt hc123 ?_))
 exact Yj I3 (x138 == ([98,97,115,101,46,101]:Str)) h
 refine Zk hc123 (Zk hc123 (Zk hc123 (Zk hc123 (Zk hc123 (Zk hc123 (Zk hc123 (Zk hc123 (Zk hc123 (Zn hc123 ?_)))))))))
 exact Yj I3 false h
 intro b120 H140 h
 replace h:=hR122 b120 H140 h
 refine Zm ?_
 obtain ⟨J142,h,hR143⟩:=h
 refine GL.cut (α:=Bool) 8 J142 (fun b141=>[(114,.bool b141)]) ?_ ?_
 rcases h.em with ⟨hc144,h⟩ | ⟨hc144,h⟩
 refine Zu hc144 Yf ?_
 obtain ⟨x145,v146,h⟩:=h
 refine Zu hc144 (Yo v146) ?_
 obtain ⟨p147,ha148,hb149,hc150,hd151,h⟩:=h
 refine Zu hc144 (OV.indexAddr rfl rfl rfl rfl ha148 hb149 hc150 hd151) (Zu hc144 Yf ?_)
 obtain ⟨x152,v153,h⟩:=h
 refine Zu hc144 (Yo v153) (Zu hc144 (OV.lenSl rfl rfl) (Zu hc144 (OV.ibin (v:=.bool (((Sl.len x152:Int):Int) == 1)) rfl rfl rfl) (Zt hc144 ?_)))
 exact Yj I3 (((Sl.len x152:Int):Int) == 1) h
 refine Zk hc144 (Zk hc144 (Zk hc144 (Zk hc144 (Zk hc144 (Zk hc144 (Zk hc144 (Zn hc144 ?_)))))))
 exact Yj I3 false h
 intro b141 H154 h
 replace h:=hR143 b141 H154 h
 refine Za (GL.nil ?_)
 exact Y1 I3 ⟨b141,rfl,h⟩
def Qku (C:Ctx) (p_l:Sl) (K:Bool→Heap→Prop) (H:Heap):Prop:=
 lp (α:=Int×Int) (0,0) H (fun x1 J2 H3=>
 ift ((decide ((x1.2:Int) < (Sl.len p_l:Int))) && (decide ((x1.1:Int) < 5000)))
 (ixa p_l x1.2 fun p6=>
 ldT H3 Qa.c (p6.1,p6.2+(x1.2:Int).toNat*6) fun x11=>
 Qjh C x11 (fun r13 r14 H15=>
 ift ((r14:Int) == 65)
 (K true H15)
 (ixa p_l x1.2 fun p17=>
 ldL H15 ((p17.1,p17.2+(x1.2:Int).toNat*6).1,(p17.1,p17.2+(x1.2:Int).toNat*6).2+4) fun x22=>
 ixa p_l x1.2 fun p24=>
 ldL H15 ((p24.1,p24.2+(x1.2:Int).toNat*6).1,(p24.1,p24.2+(x1.2:Int).toNat*6).2+2) fun x29=>
 ixa p_l x1.2 fun p31=>
 ldL H15 ((p31.1,p31.2+(x1.2:Int).toNat*6).1,(p31.1,p31.2+(x1.2:Int).toNat*6).2+3) fun x36=>
 ixa p_l x1.2 fun p38=>
 ldL H15 ((p38.1,p38.2+(x1.2:Int).toNat*6).1,(p38.1,p38.2+(x1.2:Int).toNat*6).2+5) fun x43=>
 ixa p_l x1.2 fun p45=>
 ldL H15 ((p45.1,p45.2+(x1.2:Int).toNat*6).1,(p45.1,p45.2+(x1.2:Int).toNat*6).2+1) fun x50=>
 J2 ((w .i64 ((w .i64 ((w .i64 (x1.1+20))+(List.length r13:Int)))+(w .i64 (10*(w .i64 ((w .i64 ((w .i64 ((w .i64 ((Sl.len x22:Int)+(Sl.len x29:Int)))+(Sl.len x36:Int)))+(Sl.len x43:Int)))+(Sl.len x50:Int))))))),(w .i64 (x1.2+1))) H15)) H3)
 (K (decide ((x1.1:Int) ≥ 5000)) H3))
theorem QnH (C p_l K H) (h:Qku C p_l K H):Qic C p_l K H:=by
 refine Ye Tryz.func14 rfl Tryz.ntmps14 [(0,slv p_l)] (Zo (Za (GL.nil (Zo (Za (GL.nil (GC.seq (Zo (Za (GL.nil (GC.block (Yp h (fun x1=>[(3,.int .i64 x1.1),(4,.int .i64 x1.2),(0,slv p_l)]) ?_))))))))))))
 intro x1 H3 J2 h
 refine GC.seq (Zo (Zm (Zm (Zq (Zi (.bool (decide ((x1.2:Int) < (Sl.len p_l:Int)))) (Zm (GL.cut0 3 [(14,.bool ((decide ((x1.2:Int) < (Sl.len p_l:Int))) && (decide ((x1.1:Int) < 5000)))),(0,slv p_l),(3,.int .i64 x1.1),(4,.int .i64 x1.2)] ?_ ?_)))))))
 rcases Zb (decide ((x1.2:Int) < (Sl.len p_l:Int))) with u4 | u4
 refine Zu u4 Ym (Zu u4 (OV.ibin (v:=.bool (decide ((x1.1:Int) < 5000))) rfl rfl rfl) (Zt u4 ?_))
 exact GL.jump0 I3 () rfl ⟨(by rw [u4]; rfl),rfl,rfl,rfl,trivial⟩
 refine Zk u4 (Zk u4 (Zn u4 ?_))
 exact GL.jump0 I3 () rfl ⟨(by rw [u4]; rfl),rfl,rfl,rfl,trivial⟩
 refine GL.nil (Yd h (fun u5 h=>?_) fun u5 h=>?_)
 refine GC.skip (GC.seq (GC.block (Zo (Zm (Zm (Yx h fun p6 h=>?_))))))
 obtain ⟨x11,v12,h⟩:=h
 refine Zv (OV.loadT rfl rfl rfl v12) (Zc h Qo7 ?_)
 rintro _ H15 ⟨r13,r14,rfl,h⟩
 refine Zm (Yv (sv r13) rfl rfl (Yv (.int .i64 r14) rfl rfl (Za (Za (GL.nil (GC.seq (Zo (Zm (Zi (.bool ((r14:Int) == 65)) (GL.nil (Yd h (fun u16 h=>?_) fun u16 h=>?_)))))))))))
 refine Zo (Za (GL.nil ?_))
 exact Y1 I3 ⟨true,rfl,h⟩
 refine GC.skip (GC.draw (by kernel_rfl) (by kernel_rfl) (GQ.val trivial rfl (OV.move (v:=.int .i64 x1.1) rfl) (GQ.val trivial rfl (OV.ibin (v:=.int .i64 (w .i64 (x1.1+20))) rfl rfl rfl) (GQ.val trivial rfl (OV.move (v:=sv r13) rfl) (GQ.val trivial rfl (OV.lenStr (s:=r13) rfl rfl) (GQ.val trivial rfl (OV.ibin (v:=.int .i64 (w .i64 ((w .i64 (x1.1+20))+(List.length r13:Int)))) rfl rfl rfl) (GQ.val trivial rfl (OV.move (v:=slv p_l) rfl) (GQ.val trivial rfl (OV.move (v:=.int .i64 x1.2) rfl) ?_))))))))
 obtain ⟨p17,ha18,hb19,u20,hd21,h⟩:=h
 refine GQ.val trivial rfl (OV.indexAddr (s:=p_l) rfl rfl rfl rfl ha18 hb19 u20 hd21) (GQ.val trivial rfl (OV.fieldAddr (p:=(p17.1,p17.2+(x1.2:Int).toNat*6)) rfl rfl) ?_)
 obtain ⟨x22,v23,h⟩:=h
 refine GQ.val trivial rfl (OV.load (p:=((p17.1,p17.2+(x1.2:Int).toNat*6).1,(p17.1,p17.2+(x1.2:Int).toNat*6).2+4)) rfl rfl v23) (GQ.val trivial rfl (OV.lenSl (s:=x22) rfl rfl) (GQ.val trivial rfl (OV.move (v:=slv p_l) rfl) (GQ.val trivial rfl (OV.move (v:=.int .i64 x1.2) rfl) ?_)))
 obtain ⟨p24,ha25,hb26,u27,hd28,h⟩:=h
 refine GQ.val trivial rfl (OV.indexAddr (s:=p_l) rfl rfl rfl rfl ha25 hb26 u27 hd28) (GQ.val trivial rfl (OV.fieldAddr (p:=(p24.1,p24.2+(x1.2:Int).toNat*6)) rfl rfl) ?_)
 obtain ⟨x29,v30,h⟩:=h
 refine GQ.val trivial rfl (OV.load (p:=((p24.1,p24.2+(x1.2:Int).toNat*6).1,(p24.1,p24.2+(x1.2:Int).toNat*6).2+2)) rfl rfl v30) (GQ.val trivial rfl (OV.lenSl (s:=x29) rfl rfl) (GQ.val trivial rfl (OV.ibin (v:=.int .i64 (w .i64 ((Sl.len x22:Int)+(Sl.len x29:Int)))) rfl rfl rfl) (GQ.val trivial rfl (OV.move (v:=slv p_l) rfl) (GQ.val trivial rfl (OV.move (v:=.int .i64 x1.2) rfl) ?_))))
 obtain ⟨p31,ha32,hb33,u34,hd35,h⟩:=h
 refine GQ.val trivial rfl (OV.indexAddr (s:=p_l) rfl rfl rfl rfl ha32 hb33 u34 hd35) (GQ.val trivial rfl (OV.fieldAddr (p:=(p31.1,p31.2+(x1.2:Int).toNat*6)) rfl rfl) ?_)
 obtain ⟨x36,v37,h⟩:=h
 refine GQ.val trivial rfl (OV.load (p:=((p31.1,p31.2+(x1.2:Int).toNat*6).1,(p31.1,p31.2+(x1.2:Int).toNat*6).2+3)) rfl rfl v37) (GQ.val trivial rfl (OV.lenSl (s:=x36) rfl rfl) (GQ.val trivial rfl (OV.ibin (v:=.int .i64 (w .i64 ((w .i64 ((Sl.len x22:Int)+(Sl.len x29:Int)))+(Sl.len x36:Int)))) rfl rfl rfl) (GQ.val trivial rfl (OV.move (v:=slv p_l) rfl) (GQ.val trivial rfl (OV.move (v:=.int .i64 x1.2) rfl) ?_))))
 obtain ⟨p38,ha39,hb40,u41,hd42,h⟩:=h
 refine GQ.val trivial rfl (OV.indexAddr (s:=p_l) rfl rfl rfl rfl ha39 hb40 u41 hd42) (GQ.val trivial rfl (OV.fieldAddr (p:=(p38.1,p38.2+(x1.2:Int).toNat*6)) rfl rfl) ?_)
 obtain ⟨x43,v44,h⟩:=h
 refine GQ.val trivial rfl (OV.load (p:=((p38.1,p38.2+(x1.2:Int).toNat*6).1,(p38.1,p38.2+(x1.2:Int).toNat*6).2+5)) rfl rfl v44) (GQ.val trivial rfl (OV.lenSl (s:=x43) rfl rfl) (GQ.val trivial rfl (OV.ibin (v:=.int .i64 (w .i64 ((w .i64 ((w .i64 ((Sl.len x22:Int)+(Sl.len x29:Int)))+(Sl.len x36:Int)))+(Sl.len x43:Int)))) rfl rfl rfl) (GQ.val trivial rfl (OV.move (v:=slv p_l) rfl) (GQ.val trivial rfl (OV.move (v:=.int .i64 x1.2) rfl) ?_))))
 obtain ⟨p45,ha46,hb47,u48,hd49,h⟩:=h
 refine GQ.val trivial rfl (OV.indexAddr (s:=p_l) rfl rfl rfl rfl ha46 hb47 u48 hd49) (GQ.val trivial rfl (OV.fieldAddr (p:=(p45.1,p45.2+(x1.2:Int).toNat*6)) rfl rfl) ?_)
 obtain ⟨x50,v51,h⟩:=h
 refine GQ.val trivial rfl (OV.load (p:=((p45.1,p45.2+(x1.2:Int).toNat*6).1,(p45.1,p45.2+(x1.2:Int).toNat*6).2+1)) rfl rfl v51) (GQ.val trivial rfl (OV.lenSl (s:=x50) rfl rfl) (GQ.val trivial rfl (OV.ibin (v:=.int .i64 (w .i64 ((w .i64 ((w .i64 ((w .i64 ((Sl.len x22:Int)+(Sl.len x29:Int)))+(Sl.len x36:Int)))+(Sl.len x43:Int)))+(Sl.len x50:Int)))) rfl rfl rfl) (GQ.val trivial rfl (OV.ibin (v:=.int .i64 (w .i64 (10*(w .i64 ((w .i64 ((w .i64 ((w .i64 ((Sl.len x22:Int)+(Sl.len x29:Int)))+(Sl.len x36:Int)))+(Sl.len x43:Int)))+(Sl.len x50:Int)))))) rfl rfl rfl) (GQ.val trivial rfl (OV.ibin (v:=.int .i64 (w .i64 ((w .i64 ((w .i64 (x1.1+20))+(List.length r13:Int)))+(w .i64 (10*(w .i64 ((w .i64 ((w .i64 ((w .i64 ((Sl.len x22:Int)+(Sl.len x29:Int)))+(Sl.len x36:Int)))+(Sl.len x43:Int)))+(Sl.len x50:Int)))))))) rfl rfl rfl) (GQ.val trivial rfl (OV.assign (v:=.int .i64 (w .i64 ((w .i64 ((w .i64 (x1.1+20))+(List.length r13:Int)))+(w .i64 (10*(w .i64 ((w .i64 ((w .i64 ((w .i64 ((Sl.len x22:Int)+(Sl.len x29:Int)))+(Sl.len x36:Int)))+(Sl.len x43:Int)))+(Sl.len x50:Int)))))))) rfl) (GQ.nil (GL.nil_to I3 (GC.region (Zm (Zi (.int .i64 (w .i64 (x1.2+1))) (Za ?_)))))))))))
 exact Yj I3 ((w .i64 ((w .i64 ((w .i64 (x1.1+20))+(List.length r13:Int)))+(w .i64 (10*(w .i64 ((w .i64 ((w .i64 ((w .i64 ((Sl.len x22:Int)+(Sl.len x29:Int)))+(Sl.len x36:Int)))+(Sl.len x43:Int)))+(Sl.len x50:Int))))))),(w .i64 (x1.2+1))) h
 refine GC.exit_to I3 (Zo (Zm (Zi (.bool (decide ((x1.1:Int) ≥ 5000))) (Za (GL.nil ?_)))))
 exact Y1 I3 ⟨(decide ((x1.1:Int) ≥ 5000)),rfl,h⟩
def Qf9 (C:Ctx) (p_a:Sl) (p_b:Sl) (K:Bool→Heap→Prop) (H:Heap):Prop:=
 ift (((Sl.len p_a:Int):Int) != (Sl.len p_b:Int))
 (K false H)
 (lp (α:=Int) 0 H (fun x2 J3 H4=>
 ift (decide ((x2:Int) < (Sl.len p_a:Int)))
 (jn (α:=Bool) (fun x7 H8=>
 ift x7
 (K false H8)
 (J3 (w .i64 (x2+1)) H8))
 (fun J6=>dr H4 fun Hs10=>
 ixa p_a x2 fun p12=>
 ldS Hs10 ((p12.1,p12.2+(x2:Int).toNat*3).1,(p12.1,p12.2+(x2:Int).toNat*3).2+0) fun x17=>
 ixa p_b x2 fun p19=>
 ldS Hs10 ((p19.1,p19.2+(x2:Int).toNat*3).1,(p19.1,p19.2+(x2:Int).toNat*3).2+0) fun x24=>
 ift (!(x17 == x24))
 (J6 true H4)
 (ixa p_a x2 fun p27=>
 ldT Hs10 Qd.c ((p27.1,p27.2+(x2:Int).toNat*3).1,(p27.1,p27.2+(x2:Int).toNat*3).2+1) fun x32=>
 ixa p_b x2 fun p34=>
 ldT Hs10 Qd.c ((p34.1,p34.2+(x2:Int).toNat*3).1,(p34.1,p34.2+(x2:Int).toNat*3).2+1) fun x39=>
 QaQ C x32 x39 (fun r42 H43=>
 Heap.le Hs10 H43∧
 J6 (!r42) H43) H4)))
 (K true H4)))
theorem QkJ (C p_a p_b K H) (h:Qf9 C p_a p_b K H):QaG C p_a p_b K H:=by
 refine Ye Tryz.func18 rfl Tryz.ntmps18 [(0,slv p_a),(1,slv p_b)] (Zo (Za (GL.nil (GC.seq (Zo (Zm (Zq (Zm (Zq (Zi (.bool (((Sl.len p_a:Int):Int) != (Sl.len p_b:Int))) (GL.nil (Yd h (fun u1 h=>?_) fun u1 h=>?_))))))))))))
 refine Zo (Za (GL.nil ?_))
 exact Y1 I3 ⟨false,rfl,h⟩
 refine GC.skip (GC.seq (Zo (Za (GL.nil (GC.block (Yp h (fun x2=>[(5,.int .i64 x2),(0,slv p_a),(1,slv p_b)]) ?_))))))
 intro x2 H4 J3 h
 refine GC.seq (Zo (Zm (Zm (Zq (Zi (.bool (decide ((x2:Int) < (Sl.len p_a:Int)))) (GL.nil (Yd h (fun u5 h=>?_) fun u5 h=>?_)))))))
 refine GC.skip (GC.seq (GC.block (GC.seq ?_)))
 obtain ⟨J6,h,hR9⟩:=h
 refine GC.meet (α:=Bool) J6 (fun x7=>[(41,.bool x7),(0,slv p_a),(1,slv p_b),(5,.int .i64 x2)]) ?_ ?_
 obtain ⟨Hs10,hle11,h⟩:=h
 refine GC.any (Hs:=Hs10) (by kernel_rfl) hle11 (Zp 0 rfl Ym (Zp 1 rfl Ym ?_))
 obtain ⟨p12,ha13,hb14,u15,hd16,h⟩:=h
 refine Zp 2 rfl (OV.indexAddr rfl rfl rfl rfl ha13 hb14 u15 hd16) (Zp 3 rfl Yf ?_)
 obtain ⟨x17,v18,h⟩:=h
 refine Zp 4 rfl (Yo v18) (Zp 5 rfl Ym (Zp 6 rfl Ym ?_))
 obtain ⟨p19,ha20,hb21,u22,hd23,h⟩:=h
 refine Zp 7 rfl (OV.indexAddr rfl rfl rfl rfl ha20 hb21 u22 hd23) (Zp 8 rfl Yf ?_)
 obtain ⟨x24,v25,h⟩:=h
 refine Zp 9 rfl (Yo v25) (Zp 10 rfl (OV.sbin (a:=x17) (b:=x24) (v:=.bool (!(x17 == x24))) rfl rfl rfl) (Zp 11 rfl Ym ?_))
 rcases h.em with ⟨u26,h⟩ | ⟨u26,h⟩
 refine Zj 12 rfl (Yw u26) (Zj 13 rfl (Yw u26) (Zj 14 rfl (Yw u26) (Zj 15 rfl (Yw u26) (Zj 16 rfl (Yw u26) (Zj 17 rfl (Yw u26) (Zj 18 rfl (Yw u26) (Zj 19 rfl (Yw u26) (Zj 20 rfl (Yw u26) (Zj 21 rfl (Yw u26) (Zj 22 rfl (Yw u26) (Zj 23 rfl (Yw u26) (Zp 24 rfl (OV.pickT rfl u26 rfl) (GA.done (by kernel_rfl) ?_)))))))))))))
 exact Yj I3 true h
 refine Zg 12 rfl (Yt u26) Ym (Zg 13 rfl (Yt u26) Ym ?_)
 obtain ⟨p27,ha28,hb29,u30,hd31,h⟩:=h
 refine Zg 14 rfl (Yt u26) (OV.indexAddr rfl rfl rfl rfl ha28 hb29 u30 hd31) (Zg 15 rfl (Yt u26) Yf ?_)
 obtain ⟨x32,v33,h⟩:=h
 refine Zg 16 rfl (Yt u26) (OV.loadT rfl rfl rfl v33) (Zg 17 rfl (Yt u26) Ym (Zg 18 rfl (Yt u26) Ym ?_))
 obtain ⟨p34,ha35,hb36,u37,hd38,h⟩:=h
 refine Zg 19 rfl (Yt u26) (OV.indexAddr rfl rfl rfl rfl ha35 hb36 u37 hd38) (Zg 20 rfl (Yt u26) Yf ?_)
 obtain ⟨x39,v40,h⟩:=h
 refine Zg 21 rfl (Yt u26) (OV.loadT rfl rfl rfl v40) (GA.eff 22 rfl (by kernel_rfl) (GL.call h (Yt u26) rfl QhB (vs:=[.agg (Qd.c x32).toArray,.agg (Qd.c x39).toArray]) rfl ?_))
 rintro _ H43 ⟨r42,rfl,h⟩
 obtain ⟨hle41,h⟩:=h
 refine GA.back hle41 (Zg 23 rfl (Yt u26) (OV.not rfl) (Zp 24 rfl (OV.pickF rfl u26 rfl) (GA.done (by kernel_rfl) ?_)))
 exact Yj I3 (!r42) h
 intro x7 H8 h
 replace h:=hR9 x7 H8 h
 refine GL.nil (Yd h (fun u44 h=>?_) fun u44 h=>?_)
 refine Zo (Za (GL.nil ?_))
 exact Y1 I3 ⟨false,rfl,h⟩
 refine GC.skip_to I3 (GC.region (Zm (Zi (.int .i64 (w .i64 (x2+1))) (Za ?_))))
 exact Yj I3 (w .i64 (x2+1)) h
 refine GC.exit_to I3 (Zo (Za (GL.nil ?_)))
 exact Y1 I3 ⟨true,rfl,h⟩
def QhR (C:Ctx) (p_a:Qj) (p_b:Qj) (K:Bool→Heap→Prop) (H:Heap):Prop:=
 nw (Qj.c p_a) (fun b1 H2=>
 nw (Qj.c p_b) (fun b3 H4=>
 ldS H4 ((b1,0).1,(b1,0).2+2) fun x5=>
 ldS H4 ((b3,0).1,(b3,0).2+2) fun x7=>
 jn (α:=Bool) (fun b9 H19=>
 jn (α:=Bool) (fun b20 H30=>
 jn (α:=Bool) (fun b31 H41=>
 K b31 H41)
 (fun J32=>ift b20
 (ldL H30 ((b1,0).1,(b1,0).2+5) fun x35=>
 ldL H30 ((b3,0).1,(b3,0).2+5) fun x37=>
 Qbe C x35 x37 (fun r39 H40=>
 J32 r39 H40) H30)
 (J32 false H30)))
 (fun J21=>ift b9
 (ldL H19 ((b1,0).1,(b1,0).2+4) fun x24=>
 ldL H19 ((b3,0).1,(b3,0).2+4) fun x26=>
 QeU C x24 x26 (fun r28 H29=>
 J21 r28 H29) H19)
 (J21 false H19)))
 (fun J10=>ift (x5 == x7)
 (ldL H4 ((b1,0).1,(b1,0).2+3) fun x13=>
 ldL H4 ((b3,0).1,(b3,0).2+3) fun x15=>
 Q7 C x13 x15 (fun r17 H18=>
 J10 r17 H18) H4)
 (J10 false H4))) H2) H
theorem QlK (C p_a p_b K H) (h:QhR C p_a p_b K H):QaP C p_a p_b K H:=by
 refine Ye Tryz.func19 rfl Tryz.ntmps19 [(0,.agg (Qj.c p_a).toArray),(1,.agg (Qj.c p_b).toArray)] (Zo (GL.box (v:=.agg (Qj.c p_a).toArray) (cs:=Qj.c p_a) h trivial rfl rfl rfl ?_))
 intro b1 H2 h
 refine GL.box (v:=.agg (Qj.c p_b).toArray) (cs:=Qj.c p_b) h trivial rfl rfl rfl ?_
 intro b3 H4 h
 refine Za (GL.nil (Zo (Zf (Yl h fun x5 h=>?_))))
 refine Zf (Yl h fun x7 h=>?_)
 refine Zv (OV.sbin (a:=x5) (b:=x7) (v:=.bool (x5 == x7)) rfl rfl rfl) (Zm ?_)
 obtain ⟨J10,h,hR11⟩:=h
 refine GL.cut (α:=Bool) 6 J10 (fun b9=>[(16,.bool b9),(2,pv (some (b1,0))),(3,pv (some (b3,0)))]) ?_ ?_
 rcases h.em with ⟨u12,h⟩ | ⟨u12,h⟩
 refine Zu u12 Yf ?_
 obtain ⟨x13,v14,h⟩:=h
 refine Zu u12 (Yo v14) (Zu u12 Yf ?_)
 obtain ⟨x15,v16,h⟩:=h
 refine Zu u12 (Yo v16) (GL.call h (Yt u12) rfl Qeu (vs:=[slv x13,slv x15]) rfl ?_)
 rintro _ H18 ⟨r17,rfl,h⟩
 refine Zt u12 ?_
 exact Yj I3 r17 h
 refine Zk u12 (Zk u12 (Zk u12 (Zk u12 (Zk u12 (Zn u12 ?_)))))
 exact Yj I3 false h
 intro b9 H19 h
 replace h:=hR11 b9 H19 h
 refine Zm ?_
 obtain ⟨J21,h,hR22⟩:=h
 refine GL.cut (α:=Bool) 6 J21 (fun b20=>[(23,.bool b20),(2,pv (some (b1,0))),(3,pv (some (b3,0)))]) ?_ ?_
 rcases h.em with ⟨u23,h⟩ | ⟨u23,h⟩
 refine Zu u23 Yf ?_
 obtain ⟨x24,v25,h⟩:=h
 refine Zu u23 (Yo v25) (Zu u23 Yf ?_)
 obtain ⟨x26,v27,h⟩:=h
 refine Zu u23 (Yo v27) (GL.call h (Yt u23) rfl Qlk (vs:=[slv x24,slv x26]) rfl ?_)
 rintro _ H29 ⟨r28,rfl,h⟩
 refine Zt u23 ?_
 exact Yj I3 r28 h
 refine Zk u23 (Zk u23 (Zk u23 (Zk u23 (Zk u23 (Zn u23 ?_)))))
 exact Yj I3 false h
 intro b20 H30 h
 replace h:=hR22 b20 H30 h
 refine Zm ?_
 obtain ⟨J32,h,hR33⟩:=h
 refine GL.cut (α:=Bool) 6 J32 (fun b31=>[(30,.bool b31)]) ?_ ?_
 rcases h.em with ⟨u34,h⟩ | ⟨u34,h⟩
 refine Zu u34 Yf ?_
 obtain ⟨x35,v36,h⟩:=h
 refine Zu u34 (Yo v36) (Zu u34 Yf ?_)
 obtain ⟨x37,v38,h⟩:=h
 refine Zu u34 (Yo v38) (GL.call h (Yt u34) rfl QlT (vs:=[slv x35,slv x37]) rfl ?_)
 rintro _ H40 ⟨r39,rfl,h⟩
 refine Zt u34 ?_
 exact Yj I3 r39 h
 refine Zk u34 (Zk u34 (Zk u34 (Zk u34 (Zk u34 (Zn u34 ?_)))))
 exact Yj I3 false h
 intro b31 H41 h
 replace h:=hR33 b31 H41 h
 refine Za (GL.nil ?_)
 exact Y1 I3 ⟨b31,rfl,h⟩
def Qlt (C:Ctx) (p_m:Qa) (K:Int→Heap→Prop) (H:Heap):Prop:=
 nw (Qa.c p_m) (fun b1 H2=>
 ldT H2 Qa.c (b1,0) fun x3=>
 QdT C x3 (fun r5 H6=>
 ift (decide ((r5:Int) > 64))
 (K 65 H6)
 (ldS H6 ((b1,0).1,(b1,0).2+0) fun x8=>
 Qa0 C x8 (fun r10 H11=>
 jn (α:=Bool) (fun b12 H20=>
 jn (α:=Bool) (fun b21 H29=>
 jn (α:=Bool) (fun b30 H38=>
 jn (α:=Bool) (fun b39 H47=>
 jn (α:=Bool) (fun b48 H56=>
 ift b48
 (K 4 H56)
 (ldL H56 ((b1,0).1,(b1,0).2+1) fun x58=>
 jn (α:=Bool) (fun b60 H66=>
 jn (α:=Bool) (fun b67 H73=>
 jn (α:=Bool) (fun b74 H80=>
 jn (α:=Bool) (fun b81 H87=>
 jn (α:=Bool) (fun b88 H96=>
 jn (α:=Bool) (fun b97 H105=>
 ift b97
 (K 3 H105)
 (K 0 H105))
 (fun J98=>ift b88
 (J98 true H96)
 (ldL H96 ((b1,0).1,(b1,0).2+5) fun x101=>
 Q8 C x101 (.func (.func 55) (List.toArray []) (List.toArray []):Value) (fun r103 H104=>
 J98 (!r103) H104) H96)))
 (fun J89=>ift b81
 (J89 true H87)
 (ldL H87 ((b1,0).1,(b1,0).2+4) fun x92=>
 Qak C x92 (.func (.func 54) (List.toArray []) (List.toArray []):Value) (fun r94 H95=>
 J89 (!r94) H95) H87)))
 (fun J82=>ift b74
 (J82 true H80)
 (ldL H80 ((b1,0).1,(b1,0).2+5) fun x85=>
 J82 (decide (((Sl.len x85:Int):Int) > 256)) H80)))
 (fun J75=>ift b67
 (J75 true H73)
 (ldL H73 ((b1,0).1,(b1,0).2+4) fun x78=>
 J75 (decide (((Sl.len x78:Int):Int) > 256)) H73)))
 (fun J68=>ift b60
 (J68 true H66)
 (ldL H66 ((b1,0).1,(b1,0).2+3) fun x71=>
 J68 (decide (((Sl.len x71:Int):Int) > 64)) H66)))
 (fun J61=>ift (decide (((Sl.len x58:Int):Int) > 8))
 (J61 true H56)
 (ldL H56 ((b1,0).1,(b1,0).2+2) fun x64=>
 J61 (decide (((Sl.len x64:Int):Int) > 64)) H56))))
 (fun J49=>ift b39
 (J49 true H47)
 (ldL H47 ((b1,0).1,(b1,0).2+5) fun x52=>
 Q8 C x52 (.func (.func 51) (List.toArray []) (List.toArray []):Value) (fun r54 H55=>
 J49 (!r54) H55) H47)))
 (fun J40=>ift b30
 (J40 true H38)
 (ldL H38 ((b1,0).1,(b1,0).2+4) fun x43=>
 Qak C x43 (.func (.func 49) (List.toArray []) (List.toArray []):Value) (fun r45 H46=>
 J40 (!r45) H46) H38)))
 (fun J31=>ift b21
 (J31 true H29)
 (ldL H29 ((b1,0).1,(b1,0).2+3) fun x34=>
 Qaj C x34 (.func (.func 46) (List.toArray []) (List.toArray []):Value) (fun r36 H37=>
 J31 (!r36) H37) H29)))
 (fun J22=>ift b12
 (J22 true H20)
 (ldL H20 ((b1,0).1,(b1,0).2+2) fun x25=>
 Qac C x25 (.func (.func 44) (List.toArray []) (List.toArray []):Value) (fun r27 H28=>
 J22 (!r27) H28) H20)))
 (fun J13=>ift (!r10)
 (J13 true H11)
 (ldL H11 ((b1,0).1,(b1,0).2+1) fun x16=>
 Qai C x16 (.func (.func 42) (List.toArray []) (List.toArray []):Value) (fun r18 H19=>
 J13 (!r18) H19) H11))) H6)) H2) H
theorem Qov (C p_m K H) (h:Qlt C p_m K H):Qb2 C p_m K H:=by
 refine Ye Tryz.func20 rfl Tryz.ntmps20 [(0,.agg (Qa.c p_m).toArray)] (Zo (GL.box (v:=.agg (Qa.c p_m).toArray) (cs:=Qa.c p_m) h trivial rfl rfl rfl ?_))
 intro b1 H2 h
 refine Za (GL.nil (GC.seq (Zo ?_)))
 obtain ⟨x3,v4,h⟩:=h
 refine Zv (OV.loadT rfl rfl rfl v4) (Zc h QpF ?_)
 rintro _ H6 ⟨r5,rfl,h⟩
 refine Zi (.bool (decide ((r5:Int) > 64))) (GL.nil (Yd h (fun u7 h=>?_) fun u7 h=>?_))
 refine Zo (Za (GL.nil ?_))
 exact Y1 I3 ⟨65,rfl,h⟩
 refine GC.skip (GC.seq (Zo (Zf (Yl h fun x8 h=>?_))))
 refine Zc h Qbb ?_
 rintro _ H11 ⟨r10,rfl,h⟩
 refine Zv (OV.not rfl) (Zm ?_)
 obtain ⟨J13,h,hR14⟩:=h
 refine GL.cut (α:=Bool) 5 J13 (fun b12=>[(15,.bool b12),(1,pv (some (b1,0)))]) ?_ ?_
 rcases h.em with ⟨u15,h⟩ | ⟨u15,h⟩
 refine Zk u15 (Zk u15 (Zk u15 (Zk u15 (Zt u15 ?_))))
 exact Yj I3 true h
 refine Zu u15 Yf ?_
 obtain ⟨x16,v17,h⟩:=h
 refine Zu u15 (Yo v17) (GL.call h (Yt u15) rfl QiY (vs:=[slv x16,.func (.func 42) (List.toArray []) (List.toArray [])]) rfl ?_)
 rintro _ H19 ⟨r18,rfl,h⟩
 refine Zu u15 (OV.not rfl) (Zn u15 ?_)
 exact Yj I3 (!r18) h
 intro b12 H20 h
 replace h:=hR14 b12 H20 h
 refine Zm ?_
 obtain ⟨J22,h,hR23⟩:=h
 refine GL.cut (α:=Bool) 5 J22 (fun b21=>[(21,.bool b21),(1,pv (some (b1,0)))]) ?_ ?_
 rcases h.em with ⟨u24,h⟩ | ⟨u24,h⟩
 refine Zk u24 (Zk u24 (Zk u24 (Zk u24 (Zt u24 ?_))))
 exact Yj I3 true h
 refine Zu u24 Yf ?_
 obtain ⟨x25,v26,h⟩:=h
 refine Zu u24 (Yo v26) (GL.call h (Yt u24) rfl Qiq (vs:=[slv x25,.func (.func 44) (List.toArray []) (List.toArray [])]) rfl ?_)
 rintro _ H28 ⟨r27,rfl,h⟩
 refine Zu u24 (OV.not rfl) (Zn u24 ?_)
 exact Yj I3 (!r27) h
 intro b21 H29 h
 replace h:=hR23 b21 H29 h
 refine Zm ?_
 obtain ⟨J31,h,hR32⟩:=h
 refine GL.cut (α:=Bool) 5 J31 (fun b30=>[(27,.bool b30),(1,pv (some (b1,0)))]) ?_ ?_
 rcases h.em with ⟨u33,h⟩ | ⟨u33,h⟩
 refine Zk u33 (Zk u33 (Zk u33 (Zk u33 (Zt u33 ?_))))
 exact Yj I3 true h
 refine Zu u33 Yf ?_
 obtain ⟨x34,v35,h⟩:=h
 refine Zu u33 (Yo v35) (GL.call h (Yt u33) rfl QiZ (vs:=[slv x34,.func (.func 46) (List.toArray []) (List.toArray [])]) rfl ?_)
 rintro _ H37 ⟨r36,rfl,h⟩
 refine Zu u33 (OV.not rfl) (Zn u33 ?_)
 exact Yj I3 (!r36) h
 intro b30 H38 h
 replace h:=hR32 b30 H38 h
 refine Zm ?_
 obtain ⟨J40,h,hR41⟩:=h
 refine GL.cut (α:=Bool) 5 J40 (fun b39=>[(33,.bool b39),(1,pv (some (b1,0)))]) ?_ ?_
 rcases h.em with ⟨u42,h⟩ | ⟨u42,h⟩
 refine Zk u42 (Zk u42 (Zk u42 (Zk u42 (Zt u42 ?_))))
 exact Yj I3 true h
 refine Zu u42 Yf ?_
 obtain ⟨x43,v44,h⟩:=h
 refine Zu u42 (Yo v44) (GL.call h (Yt u42) rfl Qfx (vs:=[slv x43,.func (.func 49) (List.toArray []) (List.toArray [])]) rfl ?_)
 rintro _ H46 ⟨r45,rfl,h⟩
 refine Zu u42 (OV.not rfl) (Zn u42 ?_)
 exact Yj I3 (!r45) h
 intro b39 H47 h
 replace h:=hR41 b39 H47 h
 refine Zm ?_
 obtain ⟨J49,h,hR50⟩:=h
 refine GL.cut (α:=Bool) 5 J49 (fun b48=>[(39,.bool b48),(1,pv (some (b1,0)))]) ?_ ?_
 rcases h.em with ⟨u51,h⟩ | ⟨u51,h⟩
 refine Zk u51 (Zk u51 (Zk u51 (Zk u51 (Zt u51 ?_))))
 exact Yj I3 true h
 refine Zu u51 Yf ?_
 obtain ⟨x52,v53,h⟩:=h
 refine Zu u51 (Yo v53) (GL.call h (Yt u51) rfl Qe9 (vs:=[slv x52,.func (.func 51) (List.toArray []) (List.toArray [])]) rfl ?_)
 rintro _ H55 ⟨r54,rfl,h⟩
 refine Zu u51 (OV.not rfl) (Zn u51 ?_)
 exact Yj I3 (!r54) h
 intro b48 H56 h
 replace h:=hR50 b48 H56 h
 refine GL.nil (Yd h (fun u57 h=>?_) fun u57 h=>?_)
 refine Zo (Za (GL.nil ?_))
 exact Y1 I3 ⟨4,rfl,h⟩
 refine GC.skip (GC.seq (Zo (Zf (Yl h fun x58 h=>?_))))
 refine Zq (Zi (.bool (decide (((Sl.len x58:Int):Int) > 8))) (Zm ?_))
 obtain ⟨J61,h,hR62⟩:=h
 refine GL.cut (α:=Bool) 5 J61 (fun b60=>[(49,.bool b60),(1,pv (some (b1,0)))]) ?_ ?_
 rcases h.em with ⟨u63,h⟩ | ⟨u63,h⟩
 refine Zk u63 (Zk u63 (Zk u63 (Zk u63 (Zt u63 ?_))))
 exact Yj I3 true h
 refine Zu u63 Yf ?_
 obtain ⟨x64,v65,h⟩:=h
 refine Zu u63 (Yo v65) (Zu u63 (OV.lenSl rfl rfl) (Zu u63 (OV.ibin (v:=.bool (decide (((Sl.len x64:Int):Int) > 64))) rfl rfl rfl) (Zn u63 ?_)))
 exact Yj I3 (decide (((Sl.len x64:Int):Int) > 64)) h
 intro b60 H66 h
 replace h:=hR62 b60 H66 h
 refine Zm ?_
 obtain ⟨J68,h,hR69⟩:=h
 refine GL.cut (α:=Bool) 5 J68 (fun b67=>[(55,.bool b67),(1,pv (some (b1,0)))]) ?_ ?_
 rcases h.em with ⟨u70,h⟩ | ⟨u70,h⟩
 refine Zk u70 (Zk u70 (Zk u70 (Zk u70 (Zt u70 ?_))))
 exact Yj I3 true h
 refine Zu u70 Yf ?_
 obtain ⟨x71,v72,h⟩:=h
 refine Zu u70 (Yo v72) (Zu u70 (OV.lenSl rfl rfl) (Zu u70 (OV.ibin (v:=.bool (decide (((Sl.len x71:Int):Int) > 64))) rfl rfl rfl) (Zn u70 ?_)))
 exact Yj I3 (decide (((Sl.len x71:Int):Int) > 64)) h
 intro b67 H73 h
 replace h:=hR69 b67 H73 h
 refine Zm ?_
 obtain ⟨J75,h,hR76⟩:=h
 refine GL.cut (α:=Bool) 5 J75 (fun b74=>[(61,.bool b74),(1,pv (some (b1,0)))]) ?_ ?_
 rcases h.em with ⟨u77,h⟩ | ⟨u77,h⟩
 refine Zk u77 (Zk u77 (Zk u77 (Zk u77 (Zt u77 ?_))))
 exact Yj I3 true h
 refine Zu u77 Yf ?_
 obtain ⟨x78,v79,h⟩:=h
 refine Zu u77 (Yo v79) (Zu u77 (OV.lenSl rfl rfl) (Zu u77 (OV.ibin (v:=.bool (decide (((Sl.len x78:Int):Int) > 256))) rfl rfl rfl) (Zn u77 ?_)))
 exact Yj I3 (decide (((Sl.len x78:Int):Int) > 256)) h
 intro b74 H80 h
 replace h:=hR76 b74 H80 h
 refine Zm ?_
 obtain ⟨J82,h,hR83⟩:=h
 refine GL.cut (α:=Bool) 5 J82 (fun b81=>[(67,.bool b81),(1,pv (some (b1,0)))]) ?_ ?_
 rcases h.em with ⟨u84,h⟩ | ⟨u84,h⟩
 refine Zk u84 (Zk u84 (Zk u84 (Zk u84 (Zt u84 ?_))))
 exact Yj I3 true h
 refine Zu u84 Yf ?_
 obtain ⟨x85,v86,h⟩:=h
 refine Zu u84 (Yo v86) (Zu u84 (OV.lenSl rfl rfl) (Zu u84 (OV.ibin (v:=.bool (decide (((Sl.len x85:Int):Int) > 256))) rfl rfl rfl) (Zn u84 ?_)))
 exact Yj I3 (decide (((Sl.len x85:Int):Int) > 256)) h
 intro b81 H87 h
 replace h:=hR83 b81 H87 h
 refine Zm ?_
 obtain ⟨J89,h,hR90⟩:=h
 refine GL.cut (α:=Bool) 5 J89 (fun b88=>[(73,.bool b88),(1,pv (some (b1,0)))]) ?_ ?_
 rcases h.em with ⟨u91,h⟩ | ⟨u91,h⟩
 refine Zk u91 (Zk u91 (Zk u91 (Zk u91 (Zt u91 ?_))))
 exact Yj I3 true h
 refine Zu u91 Yf ?_
 obtain ⟨x92,v93,h⟩:=h
 refine Zu u91 (Yo v93) (GL.call h (Yt u91) rfl Qfx (vs:=[slv x92,.func (.func 54) (List.toArray []) (List.toArray [])]) rfl ?_)
 rintro _ H95 ⟨r94,rfl,h⟩
 refine Zu u91 (OV.not rfl) (Zn u91 ?_)
 exact Yj I3 (!r94) h
 intro b88 H96 h
 replace h:=hR90 b88 H96 h
 refine Zm ?_
 obtain ⟨J98,h,hR99⟩:=h
 refine GL.cut (α:=Bool) 5 J98 (fun b97=>[(79,.bool b97)]) ?_ ?_
 rcases h.em with ⟨u100,h⟩ | ⟨u100,h⟩
 refine Zk u100 (Zk u100 (Zk u100 (Zk u100 (Zt u100 ?_))))
 exact Yj I3 true h
 refine Zu u100 Yf ?_
 obtain ⟨x101,v102,h⟩:=h
 refine Zu u100 (Yo v102) (GL.call h (Yt u100) rfl Qe9 (vs:=[slv x101,.func (.func 55) (List.toArray []) (List.toArray [])]) rfl ?_)
 rintro _ H104 ⟨r103,rfl,h⟩
 refine Zu u100 (OV.not rfl) (Zn u100 ?_)
 exact Yj I3 (!r103) h
 intro b97 H105 h
 replace h:=hR99 b97 H105 h
 refine GL.nil (Yd h (fun u106 h=>?_) fun u106 h=>?_)
 refine Zo (Za (GL.nil ?_))
 exact Y1 I3 ⟨3,rfl,h⟩
 refine GC.skip (Zo (Za (GL.nil ?_)))
 exact Y1 I3 ⟨0,rfl,h⟩
def Qd3 (C:Ctx) (E:Value→Heap→Prop) (p_p:Option (Nat×Nat)) (K:Heap→Prop) (H:Heap):Prop:=
 nck p_p fun p1=>
 ldL H (p1.1,p1.2+0) fun x3=>
 lp (α:=Int) 0 H (fun x5 J6 H7=>
 ift (decide ((x5:Int) < (Sl.len x3:Int)))
 (jn (α:=Unit) (fun x10 H11=>
 J6 (w .i64 (x5+1)) H11)
 (fun J9=>ixa x3 x5 fun p13=>
 ldT H7 Qa.c (p13.1,p13.2+(x5:Int).toNat*6) fun x18=>
 nw (Qa.c Qa.zero) (fun b20 H21=>
 stT (b20,0) (Qa.c x18) (fun H22=>
 jn (α:=Unit) (fun x24 H25=>
 ldS H25 ((b20,0).1,(b20,0).2+0) fun x35=>
 Qaw C p_p x35 (fun r37 H38=>
 ift (decide ((r37:Int) < x5))
 (ldT H38 Qa.c (b20,0) fun x40=>
 QG C E x40 (⟨0,0⟩:Qo) 6 (fun H42=>
 J9 () H42) H38)
 (J9 () H38)) H25)
 (fun J23=>ldT H22 Qa.c (b20,0) fun x27=>
 Qb2 C x27 (fun r29 H30=>
 ift ((r29:Int) != 0)
 (ldT H30 Qa.c (b20,0) fun x32=>
 QG C E x32 (⟨0,0⟩:Qo) r29 (fun H34=>
 J23 () H34) H30)
 (J23 () H30)) H22)) H21) H7))
 (K H7))
theorem Qhd (C E p_p K H) (h:Qd3 C E p_p K H):Qb8 C E p_p K H:=by
 refine SpecP.enter Tryz.func22 rfl Tryz.ntmps22 rfl (GC.sub [(0,pv p_p)] ⟨rfl,trivial⟩ (Zo (Zm ?_)))
 obtain ⟨p1,hp2,h⟩:=h
 refine Zv (OV.nilCheck (q:=p_p) rfl hp2) (Zf (Yl h fun x3 h=>?_))
 refine Zq (Zm (GL.nil (GC.block (Yp h (fun x5=>[(10,.int .i64 x5),(0,pv p_p),(8,slv x3),(9,.int .i64 (Sl.len x3:Int))]) ?_))))
 intro x5 H7 J6 h
 refine Zo (Zi (.bool (decide ((x5:Int) < (Sl.len x3:Int)))) (GL.nil (GC.seq (Yd h (fun u8 h=>?_) fun u8 h=>?_))))
 refine GC.skip ?_
 obtain ⟨J9,h,hR12⟩:=h
 refine GC.join (α:=Unit) J9 (fun _=>[(0,pv p_p),(8,slv x3),(9,.int .i64 (Sl.len x3:Int)),(10,.int .i64 x5)]) ?_ ?_
 refine GC.block (Zo (Zm (Yx h fun p13 h=>?_)))
 obtain ⟨x18,v19,h⟩:=h
 refine Zv (OV.loadT rfl rfl rfl v19) (GL.alloc (cs:=Qa.c Qa.zero) h trivial rfl rfl rfl ?_)
 intro b20 H21 h
 refine Za (GL.storeT (p:=(b20,0)) (vs:=Qa.c x18) h trivial rfl rfl rfl rfl ?_)
 intro H22 h
 refine GL.nil ?_
 obtain ⟨J23,h,hR26⟩:=h
 refine GC.join (α:=Unit) J23 (fun _=>[(0,pv p_p),(2,.int .i64 x5),(3,pv (some (b20,0))),(8,slv x3),(9,.int .i64 (Sl.len x3:Int)),(10,.int .i64 x5)]) ?_ ?_
 refine Zo ?_
 obtain ⟨x27,v28,h⟩:=h
 refine Zv (OV.loadT rfl rfl rfl v28) (Zc h Qll ?_)
 rintro _ H30 ⟨r29,rfl,h⟩
 refine Za (GL.nil (Zo (Zm (Zi (.bool ((r29:Int) != 0)) (GL.nil (Yd h (fun u31 h=>?_) fun u31 h=>?_))))))
 refine GC.region ?_
 obtain ⟨x32,v33,h⟩:=h
 refine Zv (OV.loadT rfl rfl rfl v33) (Zv (OV.build (vs:=[]) (v:=.agg (Qo.c (⟨0,0⟩:Qo)).toArray) rfl (fun _=>by kernel_rfl)) (Zm (GL.callP h (fun _ _ _ _ h=>h) trivial rfl Q6 (vs:=[.agg (Qa.c x32).toArray,.agg (Qo.c (⟨0,0⟩:Qo)).toArray,.int .i64 r29]) rfl ?_)))
 rintro _ H34 ⟨rfl,h⟩
 exact Yj I3 () h
 exact Yk I3 () h
 intro x24 H25 h
 replace h:=hR26 x24 H25 h
 refine Zo (Zm (Zf (Yl h fun x35 h=>?_)))
 refine Zc h Qbu ?_
 rintro _ H38 ⟨r37,rfl,h⟩
 refine Zm (Zi (.bool (decide ((r37:Int) < x5))) (GL.nil (Yd h (fun u39 h=>?_) fun u39 h=>?_)))
 refine GC.region ?_
 obtain ⟨x40,v41,h⟩:=h
 refine Zv (OV.loadT rfl rfl rfl v41) (Zv (OV.build (vs:=[]) (v:=.agg (Qo.c (⟨0,0⟩:Qo)).toArray) rfl (fun _=>by kernel_rfl)) (GL.callP h (fun _ _ _ _ h=>h) trivial rfl Q6 (vs:=[.agg (Qa.c x40).toArray,.agg (Qo.c (⟨0,0⟩:Qo)).toArray,.int .i64 6]) rfl ?_))
 rintro _ H42 ⟨rfl,h⟩
 exact Yj I3 () h
 exact Yk I3 () h
 intro x10 H11 h
 replace h:=hR12 x10 H11 h
 refine GC.region (Zi (.int .i64 (w .i64 (x5+1))) (Zm ?_))
 exact Yj I3 (w .i64 (x5+1)) h
 exact GC.exit_ends (fun _ _ hf hs=>postP (E:=E) hf (Qt rfl hf hs ⟨rfl,h⟩))
def QdK (C:Ctx) (E:Value→Heap→Prop) (p_p:Option (Nat×Nat)) (K:Heap→Prop) (H:Heap):Prop:=
 nck p_p fun p1=>
 ldL H (p1.1,p1.2+0) fun x3=>
 lp (α:=Int) 0 H (fun x5 J6 H7=>
 ift (decide ((x5:Int) < (Sl.len x3:Int)))
 (ixa x3 x5 fun p9=>
 ldT H7 Qa.c (p9.1,p9.2+(x5:Int).toNat*6) fun x14=>
 nw (Qa.c Qa.zero) (fun b16 H17=>
 stT (b16,0) (Qa.c x14) (fun H18=>
 ldL H18 ((b16,0).1,(b16,0).2+1) fun x19=>
 lp (α:=Int) 0 H18 (fun x21 J22 H23=>
 ift (decide ((x21:Int) < (Sl.len x19:Int)))
 (jn (α:=Unit) (fun x26 H27=>
 J22 (w .i64 (x21+1)) H27)
 (fun J25=>ixa x19 x21 fun p29=>
 ldT H23 Qp.c (p29.1,p29.2+(x21:Int).toNat*3) fun x34=>
 nw (Qp.c Qp.zero) (fun b36 H37=>
 stT (b36,0) (Qp.c x34) (fun H38=>
 ldS H38 ((b36,0).1,(b36,0).2+2) fun x39=>
 Qaw C p_p x39 (fun r41 H42=>
 ift (decide ((r41:Int) < 0))
 (ldT H42 Qa.c (b16,0) fun x44=>
 ldT H42 Qo.c ((b36,0).1,(b36,0).2+0) fun x46=>
 QG C E x44 x46 63 (fun H48=>
 J25 () H48) H42)
 (ldL H42 ((b16,0).1,(b16,0).2+1) fun x49=>
 slL x49 0 x21 (Sl.cap x49:Int) 3 fun t51=>
 Qu C t51 (.func (.func 59) (List.toArray []) (List.toArray [pv (some (b36,0))]):Value) (fun r57 H58=>
 ift r57
 (ldT H58 Qa.c (b16,0) fun x60=>
 ldT H58 Qo.c ((b36,0).1,(b36,0).2+0) fun x62=>
 QG C E x60 x62 6 (fun H64=>
 J25 () H64) H58)
 (J25 () H58)) H42)) H38) H37) H23))
 (J6 (w .i64 (x5+1)) H23))) H17) H7)
 (nck p_p fun p65=>
 ldL H7 (p65.1,p65.2+0) fun x67=>
 lp (α:=Int) 0 H7 (fun x69 J70 H71=>
 ift (decide ((x69:Int) < (Sl.len x67:Int)))
 (ixa x67 x69 fun p73=>
 ldT H71 Qa.c (p73.1,p73.2+(x69:Int).toNat*6) fun x78=>
 nw (Qa.c Qa.zero) (fun b80 H81=>
 stT (b80,0) (Qa.c x78) (fun H82=>
 ldL H82 ((b80,0).1,(b80,0).2+1) fun x83=>
 lp (α:=Int) 0 H82 (fun x85 J86 H87=>
 ift (decide ((x85:Int) < (Sl.len x83:Int)))
 (jn (α:=Unit) (fun x90 H91=>
 J86 (w .i64 (x85+1)) H91)
 (fun J89=>ixa x83 x85 fun p93=>
 ldT H87 Qp.c (p93.1,p93.2+(x85:Int).toNat*3) fun x98=>
 nw (Qp.c Qp.zero) (fun b100 H101=>
 stT (b100,0) (Qp.c x98) (fun H102=>
 ldS H102 ((b100,0).1,(b100,0).2+2) fun x103=>
 Qaw C p_p x103 (fun r105 H106=>
 mkM (fun b107 H108=>
 Qax C p_p r105 x69 (some b107) (fun r109 H110=>
 ift r109
 (ldT H110 Qa.c (b80,0) fun x112=>
 ldT H110 Qo.c ((b100,0).1,(b100,0).2+0) fun x114=>
 QG C E x112 x114 64 (fun H116=>
 J89 () H116) H110)
 (J89 () H110)) H108) H106) H102) H101) H87))
 (J70 (w .i64 (x69+1)) H87))) H81) H71)
 (K H71))))
theorem QgG (C E p_p K H) (h:QdK C E p_p K H):QbS C E p_p K H:=by
 refine SpecP.enter Tryz.func23 rfl Tryz.ntmps23 rfl (GC.sub [(0,pv p_p)] ⟨rfl,trivial⟩ (GC.seq (Zo (Zm ?_))))
 obtain ⟨p1,hp2,h⟩:=h
 refine Zv (OV.nilCheck (q:=p_p) rfl hp2) (Zf (Yl h fun x3 h=>?_))
 refine Zq (Zm (GL.nil (GC.block (Yp h (fun x5=>[(15,.int .i64 x5),(0,pv p_p),(13,slv x3),(14,.int .i64 (Sl.len x3:Int))]) ?_))))
 intro x5 H7 J6 h
 refine Zo (Zi (.bool (decide ((x5:Int) < (Sl.len x3:Int)))) (GL.nil (GC.seq (Yd h (fun u8 h=>?_) fun u8 h=>?_))))
 refine GC.skip (GC.seq (GC.block (Zo (Yx h fun p9 h=>?_))))
 obtain ⟨x14,v15,h⟩:=h
 refine Zv (OV.loadT rfl rfl rfl v15) (GL.alloc (cs:=Qa.c Qa.zero) h trivial rfl rfl rfl ?_)
 intro b16 H17 h
 refine GL.storeT (p:=(b16,0)) (vs:=Qa.c x14) h trivial rfl rfl rfl rfl ?_
 intro H18 h
 refine GL.nil (Zo (Zf (Yl h fun x19 h=>?_)))
 refine Zq (Zm (GL.nil (GC.block (Yp h (fun x21=>[(22,.int .i64 x21),(0,pv p_p),(3,pv (some (b16,0))),(13,slv x3),(14,.int .i64 (Sl.len x3:Int)),(15,.int .i64 x5),(20,slv x19),(21,.int .i64 (Sl.len x19:Int))]) ?_))))
 intro x21 H23 J22 h
 refine Zo (Zi (.bool (decide ((x21:Int) < (Sl.len x19:Int)))) (GL.nil (GC.seq (Yd h (fun u24 h=>?_) fun u24 h=>?_))))
 refine GC.skip ?_
 obtain ⟨J25,h,hR28⟩:=h
 refine GC.join (α:=Unit) J25 (fun _=>[(0,pv p_p),(3,pv (some (b16,0))),(13,slv x3),(14,.int .i64 (Sl.len x3:Int)),(15,.int .i64 x5),(20,slv x19),(21,.int .i64 (Sl.len x19:Int)),(22,.int .i64 x21)]) ?_ ?_
 refine GC.block (Zo (Zm (Yx h fun p29 h=>?_)))
 obtain ⟨x34,v35,h⟩:=h
 refine Zv (OV.loadT rfl rfl rfl v35) (GL.alloc (cs:=Qp.c Qp.zero) h trivial rfl rfl rfl ?_)
 intro b36 H37 h
 refine Za (GL.storeT (p:=(b36,0)) (vs:=Qp.c x34) h trivial rfl rfl rfl rfl ?_)
 intro H38 h
 refine GL.nil (GC.block (Zo (Zm (Zf (Yl h fun x39 h=>?_)))))
 refine Zc h Qbu ?_
 rintro _ H42 ⟨r41,rfl,h⟩
 refine Zi (.bool (decide ((r41:Int) < 0))) (Za (GL.nil (Yd h (fun u43 h=>?_) fun u43 h=>?_)))
 refine GC.region ?_
 obtain ⟨x44,v45,h⟩:=h
 refine Zv (OV.loadT rfl rfl rfl v45) (Zf ?_)
 obtain ⟨x46,v47,h⟩:=h
 refine Zv (OV.loadT rfl rfl rfl v47) (GL.callP h (fun _ _ _ _ h=>h) trivial rfl Q6 (vs:=[.agg (Qa.c x44).toArray,.agg (Qo.c x46).toArray,.int .i64 63]) rfl ?_)
 rintro _ H48 ⟨rfl,h⟩
 exact Yj I3 () h
 refine Zo (Zf (Yl h fun x49 h=>?_))
 refine Zm ?_
 obtain ⟨h52,h53,h54,h55,t51,h56,h⟩:=h
 refine Zv (OV.sliceSl (s:=x49) h52 h53 h54 h55 h56 rfl rfl rfl rfl rfl rfl rfl (fun h=>by first | rfl | cases h) rfl rfl) (Zv (OV.makeFunc (vs:=[]) (us:=[pv (some (b36,0))]) rfl rfl) (Zc h QE ?_))
 rintro _ H58 ⟨r57,rfl,h⟩
 refine Za (GL.nil (Yd h (fun u59 h=>?_) fun u59 h=>?_))
 refine GC.region ?_
 obtain ⟨x60,v61,h⟩:=h
 refine Zv (OV.loadT rfl rfl rfl v61) (Zf ?_)
 obtain ⟨x62,v63,h⟩:=h
 refine Zv (OV.loadT rfl rfl rfl v63) (GL.callP h (fun _ _ _ _ h=>h) trivial rfl Q6 (vs:=[.agg (Qa.c x60).toArray,.agg (Qo.c x62).toArray,.int .i64 6]) rfl ?_)
 rintro _ H64 ⟨rfl,h⟩
 exact Yj I3 () h
 exact Yk I3 () h
 intro x26 H27 h
 replace h:=hR28 x26 H27 h
 refine GC.region (Zi (.int .i64 (w .i64 (x21+1))) (Zm ?_))
 exact Yj I3 (w .i64 (x21+1)) h
 refine GC.exit_to I3 (GC.region (Zi (.int .i64 (w .i64 (x5+1))) (Zm ?_)))
 exact Yj I3 (w .i64 (x5+1)) h
 refine GC.exit_to I3 (Zo (Zm ?_))
 obtain ⟨p65,hp66,h⟩:=h
 refine Zv (OV.nilCheck (q:=p_p) rfl hp66) (Zf (Yl h fun x67 h=>?_))
 refine Zq (Zm (GL.nil (GC.block (Yp h (fun x69=>[(55,.int .i64 x69),(0,pv p_p),(53,slv x67),(54,.int .i64 (Sl.len x67:Int))]) ?_))))
 intro x69 H71 J70 h
 refine Zo (Zi (.bool (decide ((x69:Int) < (Sl.len x67:Int)))) (GL.nil (GC.seq (Yd h (fun u72 h=>?_) fun u72 h=>?_))))
 refine GC.skip (GC.seq (GC.block (Zo (Zm (Yx h fun p73 h=>?_)))))
 obtain ⟨x78,v79,h⟩:=h
 refine Zv (OV.loadT rfl rfl rfl v79) (GL.alloc (cs:=Qa.c Qa.zero) h trivial rfl rfl rfl ?_)
 intro b80 H81 h
 refine Za (GL.storeT (p:=(b80,0)) (vs:=Qa.c x78) h trivial rfl rfl rfl rfl ?_)
 intro H82 h
 refine GL.nil (Zo (Zf (Yl h fun x83 h=>?_)))
 refine Zq (Zm (GL.nil (GC.block (Yp h (fun x85=>[(63,.int .i64 x85),(0,pv p_p),(6,.int .i64 x69),(7,pv (some (b80,0))),(53,slv x67),(54,.int .i64 (Sl.len x67:Int)),(55,.int .i64 x69),(61,slv x83),(62,.int .i64 (Sl.len x83:Int))]) ?_))))
 intro x85 H87 J86 h
 refine Zo (Zi (.bool (decide ((x85:Int) < (Sl.len x83:Int)))) (GL.nil (GC.seq (Yd h (fun u88 h=>?_) fun u88 h=>?_))))
 refine GC.skip ?_
 obtain ⟨J89,h,hR92⟩:=h
 refine GC.join (α:=Unit) J89 (fun _=>[(0,pv p_p),(6,.int .i64 x69),(7,pv (some (b80,0))),(53,slv x67),(54,.int .i64 (Sl.len x67:Int)),(55,.int .i64 x69),(61,slv x83),(62,.int .i64 (Sl.len x83:Int)),(63,.int .i64 x85)]) ?_ ?_
 refine GC.block (Zo (Yx h fun p93 h=>?_))
 obtain ⟨x98,v99,h⟩:=h
 refine Zv (OV.loadT rfl rfl rfl v99) (GL.alloc (cs:=Qp.c Qp.zero) h trivial rfl rfl rfl ?_)
 intro b100 H101 h
 refine GL.storeT (p:=(b100,0)) (vs:=Qp.c x98) h trivial rfl rfl rfl rfl ?_
 intro H102 h
 refine GL.nil (Zo (Zm (Zm (Zf (Yl h fun x103 h=>?_)))))
 refine Zc h Qbu ?_
 rintro _ H106 ⟨r105,rfl,h⟩
 refine Zm (GL.makeMap h trivial rfl ?_)
 intro b107 H108 h
 refine Zc h QdH ?_
 rintro _ H110 ⟨r109,rfl,h⟩
 refine GL.nil (Yd h (fun u111 h=>?_) fun u111 h=>?_)
 refine GC.region ?_
 obtain ⟨x112,v113,h⟩:=h
 refine Zv (OV.loadT rfl rfl rfl v113) (Zf ?_)
 obtain ⟨x114,v115,h⟩:=h
 refine Zv (OV.loadT rfl rfl rfl v115) (GL.callP h (fun _ _ _ _ h=>h) trivial rfl Q6 (vs:=[.agg (Qa.c x112).toArray,.agg (Qo.c x114).toArray,.int .i64 64]) rfl ?_)
 rintro _ H116 ⟨rfl,h⟩
 exact Yj I3 () h
 exact Yk I3 () h
 intro x90 H91 h
 replace h:=hR92 x90 H91 h
 refine GC.region (Zi (.int .i64 (w .i64 (x85+1))) (Zm ?_))
 exact Yj I3 (w .i64 (x85+1)) h
 refine GC.exit_to I3 (GC.region (Zi (.int .i64 (w .i64 (x69+1))) (Zm ?_)))
 exact Yj I3 (w .i64 (x69+1)) h
 exact GC.exit_ends (fun _ _ hf hs=>postP (E:=E) hf (Qt rfl hf hs ⟨rfl,h⟩))
def Qey (C:Ctx) (E:Value→Heap→Prop) (p_p:Option (Nat×Nat)) (p_m:Qa) (K:Heap→Prop) (H:Heap):Prop:=
 nw (Qa.c p_m) (fun b1 H2=>
 ldL H2 ((b1,0).1,(b1,0).2+2) fun x3=>
 lp (α:=Int) 0 H2 (fun x5 J6 H7=>
 ift (decide ((x5:Int) < (Sl.len x3:Int)))
 (jn (α:=Unit) (fun x10 H11=>
 J6 (w .i64 (x5+1)) H11)
 (fun J9=>ixa x3 x5 fun p13=>
 ldT H7 Qc.c (p13.1,p13.2+(x5:Int).toNat*6) fun x18=>
 nw (Qc.c Qc.zero) (fun b20 H21=>
 stT (b20,0) (Qc.c x18) (fun H22=>
 ldT H22 Qa.c (b1,0) fun x23=>
 ldS H22 ((b20,0).1,(b20,0).2+3) fun x25=>
 ldB H22 ((b20,0).1,(b20,0).2+2) fun x27=>
 Qay C p_p x23 x25 0 x27 (fun r29 H30=>
 ldL H30 ((b20,0).1,(b20,0).2+4) fun x31=>
 lp (α:=Bool×Int) (r29,0) H30 (fun x33 J34 H35=>
 ift (decide ((x33.2:Int) < (Sl.len x31:Int)))
 (ixa x31 x33.2 fun p37=>
 ldS H35 (p37.1,p37.2+(x33.2:Int).toNat*1) fun x42=>
 jn (α:=Bool) (fun b44 H58=>
 J34 (b44,(w .i64 (x33.2+1))) H58)
 (fun J45=>ift x33.1
 (ldL H35 ((b20,0).1,(b20,0).2+4) fun x48=>
 slL x48 0 x33.2 (Sl.cap x48:Int) 1 fun t50=>
 Qw C t50 x42 (fun r56 H57=>
 J45 (!r56) H57) H35)
 (J45 false H35)))
 (ldL H35 ((b20,0).1,(b20,0).2+5) fun x59=>
 lp (α:=Bool×Int) (x33.1,0) H35 (fun x61 J62 H63=>
 ift (decide ((x61.2:Int) < (Sl.len x59:Int)))
 (ixa x59 x61.2 fun p65=>
 ldT H63 Qg.c (p65.1,p65.2+(x61.2:Int).toNat*2) fun x70=>
 nw (Qg.c Qg.zero) (fun b72 H73=>
 stT (b72,0) (Qg.c x70) (fun H74=>
 ldT H74 Qa.c (b1,0) fun x75=>
 ldS H74 ((b72,0).1,(b72,0).2+0) fun x77=>
 ldB H74 ((b20,0).1,(b20,0).2+2) fun x79=>
 Qay C p_p x75 x77 1 x79 (fun r81 H82=>
 J62 ((r81 && x61.1),(w .i64 (x61.2+1))) H82) H74) H73) H63)
 (jn (α:=Unit) (fun x85 H86=>
 ldL H86 ((b20,0).1,(b20,0).2+5) fun x94=>
 QD C x94 (.func (.func 64) (List.toArray []) (List.toArray [pv (some (b20,0))]):Value) (fun r96 H97=>
 ift r96
 (ldT H97 Qa.c (b1,0) fun x99=>
 ldT H97 Qo.c ((b20,0).1,(b20,0).2+0) fun x101=>
 QG C E x99 x101 63 (fun H103=>
 J9 () H103) H97)
 (J9 () H97)) H86)
 (fun J84=>ift (!x61.1)
 (ldT H63 Qa.c (b1,0) fun x89=>
 ldT H63 Qo.c ((b20,0).1,(b20,0).2+0) fun x91=>
 QG C E x89 x91 6 (fun H93=>
 J84 () H93) H63)
 (J84 () H63))))))) H22) H21) H7))
 (ldL H7 ((b1,0).1,(b1,0).2+3) fun x104=>
 lp (α:=Int) 0 H7 (fun x106 J107 H108=>
 ift (decide ((x106:Int) < (Sl.len x104:Int)))
 (jn (α:=Unit) (fun x111 H112=>
 J107 (w .i64 (x106+1)) H112)
 (fun J110=>ixa x104 x106 fun p114=>
 ldT H108 Qh.c (p114.1,p114.2+(x106:Int).toNat*6) fun x119=>
 nw (Qh.c Qh.zero) (fun b121 H122=>
 stT (b121,0) (Qh.c x119) (fun H123=>
 ldT H123 Qa.c (b1,0) fun x124=>
 ldS H123 ((b121,0).1,(b121,0).2+4) fun x126=>
 ldB H123 ((b121,0).1,(b121,0).2+2) fun x128=>
 Qay C p_p x124 x126 2 x128 (fun r130 H131=>
 ift (!r130)
 (ldT H131 Qa.c (b1,0) fun x133=>
 ldT H131 Qo.c ((b121,0).1,(b121,0).2+0) fun x135=>
 QG C E x133 x135 6 (fun H137=>
 J110 () H137) H131)
 (ldL H131 ((b121,0).1,(b121,0).2+5) fun x138=>
 QfN C x138 Sl.nil (fun r140 H141=>
 ift r140
 (ldT H141 Qa.c (b1,0) fun x143=>
 ldT H141 Qo.c ((b121,0).1,(b121,0).2+0) fun x145=>
 QG C E x143 x145 63 (fun H147=>
 J110 () H147) H141)
 (J110 () H141)) H131)) H123) H122) H108))
 (ldL H108 ((b1,0).1,(b1,0).2+5) fun x148=>
 lp (α:=Int) 0 H108 (fun x150 J151 H152=>
 ift (decide ((x150:Int) < (Sl.len x148:Int)))
 (jn (α:=Unit) (fun x155 H156=>
 J151 (w .i64 (x150+1)) H156)
 (fun J154=>ixa x148 x150 fun p158=>
 ldT H152 Qm.c (p158.1,p158.2+(x150:Int).toNat*4) fun x163=>
 nw (Qm.c Qm.zero) (fun b165 H166=>
 stT (b165,0) (Qm.c x163) (fun H167=>
 ldT H167 Qa.c (b1,0) fun x168=>
 ldS H167 ((b165,0).1,(b165,0).2+2) fun x170=>
 Qay C p_p x168 x170 3 false (fun r172 H173=>
 ift (!r172)
 (ldT H173 Qa.c (b1,0) fun x175=>
 ldT H173 Qo.c ((b165,0).1,(b165,0).2+0) fun x177=>
 QG C E x175 x177 6 (fun H179=>
 J154 () H179) H173)
 (J154 () H173)) H167) H166) H152))
 (K H152))))))) H
theorem Qh1 (C E p_p p_m K H) (h:Qey C E p_p p_m K H):QcG C E p_p p_m K H:=by
 refine SpecP.enter Tryz.func24 rfl Tryz.ntmps24 rfl (GC.sub [(0,pv p_p),(1,.agg (Qa.c p_m).toArray)] ⟨rfl,rfl,trivial⟩ (Zo (GL.box (v:=.agg (Qa.c p_m).toArray) (cs:=Qa.c p_m) h trivial rfl rfl rfl ?_)))
 intro b1 H2 h
 refine GL.nil (GC.seq (Zo (Zf (Yl h fun x3 h=>?_))))
 refine Zq (Zm (GL.nil (GC.block (Yp h (fun x5=>[(18,.int .i64 x5),(0,pv p_p),(3,pv (some (b1,0))),(16,slv x3),(17,.int .i64 (Sl.len x3:Int))]) ?_))))
 intro x5 H7 J6 h
 refine Zo (Zi (.bool (decide ((x5:Int) < (Sl.len x3:Int)))) (GL.nil (GC.seq (Yd h (fun u8 h=>?_) fun u8 h=>?_))))
 refine GC.skip ?_
 obtain ⟨J9,h,hR12⟩:=h
 refine GC.join (α:=Unit) J9 (fun _=>[(0,pv p_p),(3,pv (some (b1,0))),(16,slv x3),(17,.int .i64 (Sl.len x3:Int)),(18,.int .i64 x5)]) ?_ ?_
 refine GC.block (Zo (Yx h fun p13 h=>?_))
 obtain ⟨x18,v19,h⟩:=h
 refine Zv (OV.loadT rfl rfl rfl v19) (GL.alloc (cs:=Qc.c Qc.zero) h trivial rfl rfl rfl ?_)
 intro b20 H21 h
 refine GL.storeT (p:=(b20,0)) (vs:=Qc.c x18) h trivial rfl rfl rfl rfl ?_
 intro H22 h
 refine GL.nil (Zo (Zm ?_))
 obtain ⟨x23,v24,h⟩:=h
 refine Zv (OV.loadT rfl rfl rfl v24) (Zf (Yl h fun x25 h=>?_))
 refine Zf (Yl h fun x27 h=>?_)
 refine Zc h Qbw ?_
 rintro _ H30 ⟨r29,rfl,h⟩
 refine Za (GL.nil (GC.seq (Zo (Zf (Yl h fun x31 h=>?_)))))
 refine Zq (Zm (GL.nil (GC.block (Yp h (fun x33=>[(6,.bool x33.1),(32,.int .i64 x33.2),(0,pv p_p),(3,pv (some (b1,0))),(5,pv (some (b20,0))),(16,slv x3),(17,.int .i64 (Sl.len x3:Int)),(18,.int .i64 x5),(30,slv x31),(31,.int .i64 (Sl.len x31:Int))]) ?_))))
 intro x33 H35 J34 h
 refine Zo (Zi (.bool (decide ((x33.2:Int) < (Sl.len x31:Int)))) (GL.nil (GC.seq (Yd h (fun u36 h=>?_) fun u36 h=>?_))))
 refine GC.skip (GC.seq (GC.block (Zo (Zm (Yx h fun p37 h=>?_)))))
 refine Yl h fun x42 h=>?_
 refine Za (Za (GL.nil (GC.region (Zm (Zm ?_)))))
 obtain ⟨J45,h,hR46⟩:=h
 refine GL.cut (α:=Bool) 8 J45 (fun b44=>[(46,.bool b44),(0,pv p_p),(3,pv (some (b1,0))),(5,pv (some (b20,0))),(16,slv x3),(17,.int .i64 (Sl.len x3:Int)),(18,.int .i64 x5),(30,slv x31),(31,.int .i64 (Sl.len x31:Int)),(32,.int .i64 x33.2)]) ?_ ?_
 rcases h.em with ⟨u47,h⟩ | ⟨u47,h⟩
 refine Zu u47 Yf ?_
 obtain ⟨x48,v49,h⟩:=h
 refine Zu u47 (Yo v49) (Zu u47 Ym ?_)
 obtain ⟨h51,h52,h53,h54,t50,h55,h⟩:=h
 refine Zu u47 (OV.sliceSl (s:=x48) h51 h52 h53 h54 h55 rfl rfl rfl rfl rfl rfl rfl (fun h=>by first | rfl | cases h) rfl rfl) (Zu u47 Ym (GL.call h (Yt u47) rfl QbK (vs:=[slv t50,sv x42]) rfl ?_))
 rintro _ H57 ⟨r56,rfl,h⟩
 refine Zu u47 (OV.not rfl) (Zt u47 ?_)
 exact Yj I3 (!r56) h
 refine Zk u47 (Zk u47 (Zk u47 (Zk u47 (Zk u47 (Zk u47 (Zk u47 (Zn u47 ?_)))))))
 exact Yj I3 false h
 intro b44 H58 h
 replace h:=hR46 b44 H58 h
 refine Za (GL.nil_to I3 (GC.region (Zi (.int .i64 (w .i64 (x33.2+1))) (Zm ?_))))
 exact Yj I3 (b44,(w .i64 (x33.2+1))) h
 refine GC.exit_to I3 (GC.seq (Zo (Zf ?_)))
 refine Yl h fun x59 h=>?_
 refine Zq (Zm (GL.nil (GC.block (Yp h (fun x61=>[(6,.bool x61.1),(51,.int .i64 x61.2),(0,pv p_p),(3,pv (some (b1,0))),(5,pv (some (b20,0))),(16,slv x3),(17,.int .i64 (Sl.len x3:Int)),(18,.int .i64 x5),(49,slv x59),(50,.int .i64 (Sl.len x59:Int))]) ?_))))
 intro x61 H63 J62 h
 refine Zo (Zi (.bool (decide ((x61.2:Int) < (Sl.len x59:Int)))) (GL.nil (GC.seq (Yd h (fun u64 h=>?_) fun u64 h=>?_))))
 refine GC.skip (GC.seq (GC.block (Zo (Yx h fun p65 h=>?_))))
 obtain ⟨x70,v71,h⟩:=h
 refine Zv (OV.loadT rfl rfl rfl v71) (GL.alloc (cs:=Qg.c Qg.zero) h trivial rfl rfl rfl ?_)
 intro b72 H73 h
 refine GL.storeT (p:=(b72,0)) (vs:=Qg.c x70) h trivial rfl rfl rfl rfl ?_
 intro H74 h
 refine GL.nil (GC.region (Zm ?_))
 obtain ⟨x75,v76,h⟩:=h
 refine Zv (OV.loadT rfl rfl rfl v76) (Zf (Yl h fun x77 h=>?_))
 refine Zf (Yl h fun x79 h=>?_)
 refine Zc h Qbw ?_
 rintro _ H82 ⟨r81,rfl,h⟩
 refine Zm (GL.cut0 2 [(64,.bool (r81 && x61.1)),(0,pv p_p),(3,pv (some (b1,0))),(5,pv (some (b20,0))),(16,slv x3),(17,.int .i64 (Sl.len x3:Int)),(18,.int .i64 x5),(49,slv x59),(50,.int .i64 (Sl.len x59:Int)),(51,.int .i64 x61.2)] ?_ ?_)
 rcases Bool.eq_false_or_eq_true r81 with u83 | u83
 refine Zu u83 Ym (Zt u83 ?_)
 exact GL.jump0 I3 () rfl ⟨(by rw [u83]; rfl),rfl,rfl,rfl,rfl,rfl,rfl,rfl,rfl,rfl,trivial⟩
 refine Zk u83 (Zn u83 ?_)
 exact GL.jump0 I3 () rfl ⟨(by rw [u83]; rfl),rfl,rfl,rfl,rfl,rfl,rfl,rfl,rfl,rfl,trivial⟩
 refine Za (GL.nil_to I3 (GC.region (Zi (.int .i64 (w .i64 (x61.2+1))) (Zm ?_))))
 exact Yj I3 ((r81 && x61.1),(w .i64 (x61.2+1))) h
 refine GC.exit_to I3 ?_
 obtain ⟨J84,h,hR87⟩:=h
 refine GC.join (α:=Unit) J84 (fun _=>[(0,pv p_p),(3,pv (some (b1,0))),(5,pv (some (b20,0))),(16,slv x3),(17,.int .i64 (Sl.len x3:Int)),(18,.int .i64 x5)]) ?_ ?_
 refine Zo (Zm (Zv (OV.not rfl) (GL.nil (Yd h (fun u88 h=>?_) fun u88 h=>?_))))
 refine GC.region ?_
 obtain ⟨x89,v90,h⟩:=h
 refine Zv (OV.loadT rfl rfl rfl v90) (Zf ?_)
 obtain ⟨x91,v92,h⟩:=h
 refine Zv (OV.loadT rfl rfl rfl v92) (GL.callP h (fun _ _ _ _ h=>h) trivial rfl Q6 (vs:=[.agg (Qa.c x89).toArray,.agg (Qo.c x91).toArray,.int .i64 6]) rfl ?_)
 rintro _ H93 ⟨rfl,h⟩
 exact Yj I3 () h
 exact Yk I3 () h
 intro x85 H86 h
 replace h:=hR87 x85 H86 h
 refine Zo (Zf (Yl h fun x94 h=>?_))
 refine Zv (OV.makeFunc (vs:=[]) (us:=[pv (some (b20,0))]) rfl rfl) (Zc h Qar ?_)
 rintro _ H97 ⟨r96,rfl,h⟩
 refine GL.nil (Yd h (fun u98 h=>?_) fun u98 h=>?_)
 refine GC.region ?_
 obtain ⟨x99,v100,h⟩:=h
 refine Zv (OV.loadT rfl rfl rfl v100) (Zf ?_)
 obtain ⟨x101,v102,h⟩:=h
 refine Zv (OV.loadT rfl rfl rfl v102) (GL.callP h (fun _ _ _ _ h=>h) trivial rfl Q6 (vs:=[.agg (Qa.c x99).toArray,.agg (Qo.c x101).toArray,.int .i64 63]) rfl ?_)
 rintro _ H103 ⟨rfl,h⟩
 exact Yj I3 () h
 exact Yk I3 () h
 intro x10 H11 h
 replace h:=hR12 x10 H11 h
 refine GC.region (Zi (.int .i64 (w .i64 (x5+1))) (Zm ?_))
 exact Yj I3 (w .i64 (x5+1)) h
 refine GC.exit_to I3 (GC.seq (Zo (Zf ?_)))
 refine Yl h fun x104 h=>?_
 refine Zq (Zm (GL.nil (GC.block (Yp h (fun x106=>[(84,.int .i64 x106),(0,pv p_p),(3,pv (some (b1,0))),(82,slv x104),(83,.int .i64 (Sl.len x104:Int))]) ?_))))
 intro x106 H108 J107 h
 refine Zo (Zi (.bool (decide ((x106:Int) < (Sl.len x104:Int)))) (GL.nil (GC.seq (Yd h (fun u109 h=>?_) fun u109 h=>?_))))
 refine GC.skip ?_
 obtain ⟨J110,h,hR113⟩:=h
 refine GC.join (α:=Unit) J110 (fun _=>[(0,pv p_p),(3,pv (some (b1,0))),(82,slv x104),(83,.int .i64 (Sl.len x104:Int)),(84,.int .i64 x106)]) ?_ ?_
 refine GC.block (Zo (Yx h fun p114 h=>?_))
 obtain ⟨x119,v120,h⟩:=h
 refine Zv (OV.loadT rfl rfl rfl v120) (GL.alloc (cs:=Qh.c Qh.zero) h trivial rfl rfl rfl ?_)
 intro b121 H122 h
 refine GL.storeT (p:=(b121,0)) (vs:=Qh.c x119) h trivial rfl rfl rfl rfl ?_
 intro H123 h
 refine GL.nil (GC.block (Zo (Zm ?_)))
 obtain ⟨x124,v125,h⟩:=h
 refine Zv (OV.loadT rfl rfl rfl v125) (Zf (Yl h fun x126 h=>?_))
 refine Zf (Yl h fun x128 h=>?_)
 refine Zc h Qbw ?_
 rintro _ H131 ⟨r130,rfl,h⟩
 refine Zv (OV.not rfl) (Za (GL.nil (Yd h (fun u132 h=>?_) fun u132 h=>?_)))
 refine GC.region ?_
 obtain ⟨x133,v134,h⟩:=h
 refine Zv (OV.loadT rfl rfl rfl v134) (Zf ?_)
 obtain ⟨x135,v136,h⟩:=h
 refine Zv (OV.loadT rfl rfl rfl v136) (GL.callP h (fun _ _ _ _ h=>h) trivial rfl Q6 (vs:=[.agg (Qa.c x133).toArray,.agg (Qo.c x135).toArray,.int .i64 6]) rfl ?_)
 rintro _ H137 ⟨rfl,h⟩
 exact Yj I3 () h
 refine Zo (Zf (Yl h fun x138 h=>?_))
 refine Zc h Qkn ?_
 rintro _ H141 ⟨r140,rfl,h⟩
 refine Za (GL.nil (Yd h (fun u142 h=>?_) fun u142 h=>?_))
 refine GC.region ?_
 obtain ⟨x143,v144,h⟩:=h
 refine Zv (OV.loadT rfl rfl rfl v144) (Zf ?_)
 obtain ⟨x145,v146,h⟩:=h
 refine Zv (OV.loadT rfl rfl rfl v146) (GL.callP h (fun _ _ _ _ h=>h) trivial rfl Q6 (vs:=[.agg (Qa.c x143).toArray,.agg (Qo.c x145).toArray,.int .i64 63]) rfl ?_)
 rintro _ H147 ⟨rfl,h⟩
 exact Yj I3 () h
 exact Yk I3 () h
 intro x111 H112 h
 replace h:=hR113 x111 H112 h
 refine GC.region (Zi (.int .i64 (w .i64 (x106+1))) (Zm ?_))
 exact Yj I3 (w .i64 (x106+1)) h
 refine GC.exit_to I3 (Zo (Zf ?_))
 refine Yl h fun x148 h=>?_
 refine Zq (Zm (GL.nil (GC.block (Yp h (fun x150=>[(113,.int .i64 x150),(0,pv p_p),(3,pv (some (b1,0))),(111,slv x148),(112,.int .i64 (Sl.len x148:Int))]) ?_))))
 intro x150 H152 J151 h
 refine Zo (Zi (.bool (decide ((x150:Int) < (Sl.len x148:Int)))) (GL.nil (GC.seq (Yd h (fun u153 h=>?_) fun u153 h=>?_))))
 refine GC.skip ?_
 obtain ⟨J154,h,hR157⟩:=h
 refine GC.join (α:=Unit) J154 (fun _=>[(0,pv p_p),(3,pv (some (b1,0))),(111,slv x148),(112,.int .i64 (Sl.len x148:Int)),(113,.int .i64 x150)]) ?_ ?_
 refine GC.block (Zo (Yx h fun p158 h=>?_))
 obtain ⟨x163,v164,h⟩:=h
 refine Zv (OV.loadT rfl rfl rfl v164) (GL.alloc (cs:=Qm.c Qm.zero) h trivial rfl rfl rfl ?_)
 intro b165 H166 h
 refine GL.storeT (p:=(b165,0)) (vs:=Qm.c x163) h trivial rfl rfl rfl rfl ?_
 intro H167 h
 refine GL.nil (Zo (Zm ?_))
 obtain ⟨x168,v169,h⟩:=h
 refine Zv (OV.loadT rfl rfl rfl v169) (Zf (Yl h fun x170 h=>?_))
 refine Zc h Qbw ?_
 rintro _ H173 ⟨r172,rfl,h⟩
 refine Zv (OV.not rfl) (GL.nil (Yd h (fun u174 h=>?_) fun u174 h=>?_))
 refine GC.region ?_
 obtain ⟨x175,v176,h⟩:=h
 refine Zv (OV.loadT rfl rfl rfl v176) (Zf ?_)
 obtain ⟨x177,v178,h⟩:=h
 refine Zv (OV.loadT rfl rfl rfl v178) (GL.callP h (fun _ _ _ _ h=>h) trivial rfl Q6 (vs:=[.agg (Qa.c x175).toArray,.agg (Qo.c x177).toArray,.int .i64 6]) rfl ?_)
 rintro _ H179 ⟨rfl,h⟩
 exact Yj I3 () h
 exact Yk I3 () h
 intro x155 H156 h
 replace h:=hR157 x155 H156 h
 refine GC.region (Zi (.int .i64 (w .i64 (x150+1))) (Zm ?_))
 exact Yj I3 (w .i64 (x150+1)) h
 exact GC.exit_ends (fun _ _ hf hs=>postP (E:=E) hf (Qt rfl hf hs ⟨rfl,h⟩))
def Qd4 (C:Ctx) (E:Value→Heap→Prop) (p_p:Option (Nat×Nat)) (K:Heap→Prop) (H:Heap):Prop:=
 nw ((List.replicate 4 (.int .i64 0:Value))) (fun b1 H2=>
 nck p_p fun p3=>
 ldL H2 (p3.1,p3.2+0) fun x5=>
 lp (α:=Int) 0 H2 (fun x7 J8 H9=>
 ift (decide ((x7:Int) < (Sl.len x5:Int)))
 (ixa x5 x7 fun p11=>
 ldT H9 Qa.c (p11.1,p11.2+(x7:Int).toNat*6) fun x16=>
 nw (Qa.c Qa.zero) (fun b18 H19=>
 stT (b18,0) (Qa.c x16) (fun H20=>
 ixr (b1,0) 4 0 <|
 ldI H20 .i64 ((b1,0).1,(b1,0).2+(0:Int).toNat*1) fun x23=>
 ldL H20 ((b18,0).1,(b18,0).2+2) fun x25=>
 ixr (b1,0) 4 0 <|
 st ((b1,0).1,(b1,0).2+(0:Int).toNat*1) (.int .i64 (w .i64 (x23+(Sl.len x25:Int)))) (fun H29=>
 ixr (b1,0) 4 2 <|
 ldI H29 .i64 ((b1,0).1,(b1,0).2+(2:Int).toNat*1) fun x32=>
 ldL H29 ((b18,0).1,(b18,0).2+3) fun x34=>
 ixr (b1,0) 4 2 <|
 st ((b1,0).1,(b1,0).2+(2:Int).toNat*1) (.int .i64 (w .i64 (x32+(Sl.len x34:Int)))) (fun H38=>
 ixr (b1,0) 4 1 <|
 ldI H38 .i64 ((b1,0).1,(b1,0).2+(1:Int).toNat*1) fun x41=>
 ldL H38 ((b18,0).1,(b18,0).2+4) fun x43=>
 ixr (b1,0) 4 1 <|
 st ((b1,0).1,(b1,0).2+(1:Int).toNat*1) (.int .i64 (w .i64 (x41+(Sl.len x43:Int)))) (fun H47=>
 ixr (b1,0) 4 3 <|
 ldI H47 .i64 ((b1,0).1,(b1,0).2+(3:Int).toNat*1) fun x50=>
 ldL H47 ((b18,0).1,(b18,0).2+5) fun x52=>
 ixr (b1,0) 4 3 <|
 st ((b1,0).1,(b1,0).2+(3:Int).toNat*1) (.int .i64 (w .i64 (x50+(Sl.len x52:Int)))) (fun H56=>
 J8 (w .i64 (x7+1)) H56) H47) H38) H29) H20) H19) H9)
 (ixr (b1,0) 4 0 <|
 ldI H9 .i64 ((b1,0).1,(b1,0).2+(0:Int).toNat*1) fun x59=>
 jn (α:=Bool) (fun b61 H69=>
 jn (α:=Bool) (fun b70 H78=>
 jn (α:=Bool) (fun b79 H87=>
 ift b79
 (E (.iface 89 (.agg (Qs.c (⟨Qi.zero,3⟩:Qs)).toArray:Value)) H87)
 (K H87))
 (fun J80=>ift b70
 (J80 true H78)
 (ixr (b1,0) 4 3 <|
 ldI H78 .i64 ((b1,0).1,(b1,0).2+(3:Int).toNat*1) fun x85=>
 J80 (decide ((x85:Int) > 256)) H78)))
 (fun J71=>ift b61
 (J71 true H69)
 (ixr (b1,0) 4 1 <|
 ldI H69 .i64 ((b1,0).1,(b1,0).2+(1:Int).toNat*1) fun x76=>
 J71 (decide ((x76:Int) > 256)) H69)))
 (fun J62=>ift (decide ((x59:Int) > 64))
 (J62 true H9)
 (ixr (b1,0) 4 2 <|
 ldI H9 .i64 ((b1,0).1,(b1,0).2+(2:Int).toNat*1) fun x67=>
 J62 (decide ((x67:Int) > 64)) H9))))) H
theorem Qhe (C E p_p K H) (h:Qd4 C E p_p K H):Qb9 C E p_p K H:=by
 refine SpecP.enter Tryz.func25 rfl Tryz.ntmps25 rfl (GC.sub [(0,pv p_p)] ⟨rfl,trivial⟩ (Zo (GL.alloc (cs:=(List.replicate 4 (.int .i64 0:Value))) h trivial rfl rfl rfl ?_)))
 intro b1 H2 h
 refine GL.nil (GC.seq (Zo (Zm ?_)))
 obtain ⟨p3,hp4,h⟩:=h
 refine Zv (OV.nilCheck (q:=p_p) rfl hp4) (Zf (Yl h fun x5 h=>?_))
 refine Zq (Zm (GL.nil (GC.block (Yp h (fun x7=>[(10,.int .i64 x7),(2,pv (some (b1,0))),(8,slv x5),(9,.int .i64 (Sl.len x5:Int))]) ?_))))
 intro x7 H9 J8 h
 refine Zo (Zi (.bool (decide ((x7:Int) < (Sl.len x5:Int)))) (GL.nil (GC.seq (Yd h (fun u10 h=>?_) fun u10 h=>?_))))
 refine GC.skip (GC.seq (GC.block (Zo (Yx h fun p11 h=>?_))))
 obtain ⟨x16,v17,h⟩:=h
 refine Zv (OV.loadT rfl rfl rfl v17) (GL.alloc (cs:=Qa.c Qa.zero) h trivial rfl rfl rfl ?_)
 intro b18 H19 h
 refine GL.storeT (p:=(b18,0)) (vs:=Qa.c x16) h trivial rfl rfl rfl rfl ?_
 intro H20 h
 refine GL.nil (Zo ?_)
 obtain ⟨ha21,hb22,h⟩:=h
 refine Zv (OV.indexAddrA (p:=(b1,0)) rfl rfl rfl rfl ha21 hb22) (Yl h fun x23 h=>?_)
 refine Zf (Yl h fun x25 h=>?_)
 refine Zq (Zi (.int .i64 (w .i64 (x23+(Sl.len x25:Int)))) ?_)
 obtain ⟨ha27,hb28,h⟩:=h
 refine Zv (OV.indexAddrA (p:=(b1,0)) rfl rfl rfl rfl ha27 hb28) (GL.store (p:=((b1,0).1,(b1,0).2+(0:Int).toNat*1)) (v:=.int .i64 (w .i64 (x23+(Sl.len x25:Int)))) h trivial rfl rfl rfl rfl ?_)
 intro H29 h
 refine GL.nil (Zo ?_)
 obtain ⟨ha30,hb31,h⟩:=h
 refine Zv (OV.indexAddrA (p:=(b1,0)) rfl rfl rfl rfl ha30 hb31) (Yl h fun x32 h=>?_)
 refine Zf (Yl h fun x34 h=>?_)
 refine Zq (Zi (.int .i64 (w .i64 (x32+(Sl.len x34:Int)))) ?_)
 obtain ⟨ha36,hb37,h⟩:=h
 refine Zv (OV.indexAddrA (p:=(b1,0)) rfl rfl rfl rfl ha36 hb37) (GL.store (p:=((b1,0).1,(b1,0).2+(2:Int).toNat*1)) (v:=.int .i64 (w .i64 (x32+(Sl.len x34:Int)))) h trivial rfl rfl rfl rfl ?_)
 intro H38 h
 refine GL.nil (Zo ?_)
 obtain ⟨ha39,hb40,h⟩:=h
 refine Zv (OV.indexAddrA (p:=(b1,0)) rfl rfl rfl rfl ha39 hb40) (Yl h fun x41 h=>?_)
 refine Zf (Yl h fun x43 h=>?_)
 refine Zq (Zi (.int .i64 (w .i64 (x41+(Sl.len x43:Int)))) ?_)
 obtain ⟨ha45,hb46,h⟩:=h
 refine Zv (OV.indexAddrA (p:=(b1,0)) rfl rfl rfl rfl ha45 hb46) (GL.store (p:=((b1,0).1,(b1,0).2+(1:Int).toNat*1)) (v:=.int .i64 (w .i64 (x41+(Sl.len x43:Int)))) h trivial rfl rfl rfl rfl ?_)
 intro H47 h
 refine GL.nil (GC.region ?_)
 obtain ⟨ha48,hb49,h⟩:=h
 refine Zv (OV.indexAddrA (p:=(b1,0)) rfl rfl rfl rfl ha48 hb49) (Yl h fun x50 h=>?_)
 refine Zf (Yl h fun x52 h=>?_)
 refine Zq (Zi (.int .i64 (w .i64 (x50+(Sl.len x52:Int)))) ?_)
 obtain ⟨ha54,hb55,h⟩:=h
 refine Zv (OV.indexAddrA (p:=(b1,0)) rfl rfl rfl rfl ha54 hb55) (GL.store (p:=((b1,0).1,(b1,0).2+(3:Int).toNat*1)) (v:=.int .i64 (w .i64 (x50+(Sl.len x52:Int)))) h trivial rfl rfl rfl rfl ?_)
 intro H56 h
 refine GL.nil_to I3 (GC.region (Zi (.int .i64 (w .i64 (x7+1))) (Zm ?_)))
 exact Yj I3 (w .i64 (x7+1)) h
 refine GC.exit_to I3 (Zo ?_)
 obtain ⟨ha57,hb58,h⟩:=h
 refine Zv (OV.indexAddrA (p:=(b1,0)) rfl rfl rfl rfl ha57 hb58) (Yl h fun x59 h=>?_)
 refine Zi (.bool (decide ((x59:Int) > 64))) (Zm ?_)
 obtain ⟨J62,h,hR63⟩:=h
 refine GL.cut (α:=Bool) 4 J62 (fun b61=>[(50,.bool b61),(2,pv (some (b1,0)))]) ?_ ?_
 rcases h.em with ⟨u64,h⟩ | ⟨u64,h⟩
 refine Zk u64 (Zk u64 (Zk u64 (Zt u64 ?_)))
 exact Yj I3 true h
 obtain ⟨ha65,hb66,h⟩:=h
 refine Zu u64 (OV.indexAddrA (p:=(b1,0)) rfl rfl rfl rfl ha65 hb66) ?_
 obtain ⟨x67,v68,h⟩:=h
 refine Zu u64 (Yo v68) (Zu u64 (OV.ibin (v:=.bool (decide ((x67:Int) > 64))) rfl rfl rfl) (Zn u64 ?_))
 exact Yj I3 (decide ((x67:Int) > 64)) h
 intro b61 H69 h
 replace h:=hR63 b61 H69 h
 refine Zm ?_
 obtain ⟨J71,h,hR72⟩:=h
 refine GL.cut (α:=Bool) 4 J71 (fun b70=>[(55,.bool b70),(2,pv (some (b1,0)))]) ?_ ?_
 rcases h.em with ⟨u73,h⟩ | ⟨u73,h⟩
 refine Zk u73 (Zk u73 (Zk u73 (Zt u73 ?_)))
 exact Yj I3 true h
 obtain ⟨ha74,hb75,h⟩:=h
 refine Zu u73 (OV.indexAddrA (p:=(b1,0)) rfl rfl rfl rfl ha74 hb75) ?_
 obtain ⟨x76,v77,h⟩:=h
 refine Zu u73 (Yo v77) (Zu u73 (OV.ibin (v:=.bool (decide ((x76:Int) > 256))) rfl rfl rfl) (Zn u73 ?_))
 exact Yj I3 (decide ((x76:Int) > 256)) h
 intro b70 H78 h
 replace h:=hR72 b70 H78 h
 refine Zm ?_
 obtain ⟨J80,h,hR81⟩:=h
 refine GL.cut (α:=Bool) 4 J80 (fun b79=>[(60,.bool b79)]) ?_ ?_
 rcases h.em with ⟨u82,h⟩ | ⟨u82,h⟩
 refine Zk u82 (Zk u82 (Zk u82 (Zt u82 ?_)))
 exact Yj I3 true h
 obtain ⟨ha83,hb84,h⟩:=h
 refine Zu u82 (OV.indexAddrA (p:=(b1,0)) rfl rfl rfl rfl ha83 hb84) ?_
 obtain ⟨x85,v86,h⟩:=h
 refine Zu u82 (Yo v86) (Zu u82 (OV.ibin (v:=.bool (decide ((x85:Int) > 256))) rfl rfl rfl) (Zn u82 ?_))
 exact Yj I3 (decide ((x85:Int) > 256)) h
 intro b79 H87 h
 replace h:=hR81 b79 H87 h
 refine GL.nil (Yd h (fun u88 h=>?_) fun u88 h=>?_)
 refine GC.region (Zv (OV.build (vs:=[(1,.int .i64 3)]) (v:=.agg (Qs.c (⟨Qi.zero,3⟩:Qs)).toArray) rfl (fun _=>by kernel_rfl)) (Zv (OV.makeInterface (u:=.agg (Qs.c (⟨Qi.zero,3⟩:Qs)).toArray) rfl (by kernel_rfl)) ?_))
 exact GL.panic (t:=89) (u:=(.agg (Qs.c (⟨Qi.zero,3⟩:Qs)).toArray:Value)) h (fun _ _ _ _ h=>h) trivial rfl
 exact GC.ends (fun _ _ hf hs=>postP (E:=E) hf (Qt rfl hf hs ⟨rfl,h⟩))
def QeO (C:Ctx) (E:Value→Heap→Prop) (p_p:Option (Nat×Nat)) (p_out:Option (Nat×Nat)) (p_m:Qa) (K:Heap→Prop) (H:Heap):Prop:=
 nw (Qa.c p_m) (fun b1 H2=>
 ldL H2 ((b1,0).1,(b1,0).2+2) fun x3=>
 lp (α:=Int) 0 H2 (fun x5 J6 H7=>
 ift (decide ((x5:Int) < (Sl.len x3:Int)))
 (ixa x3 x5 fun p9=>
 ldT H7 Qc.c (p9.1,p9.2+(x5:Int).toNat*6) fun x14=>
 nw (Qc.c Qc.zero) (fun b16 H17=>
 stT (b16,0) (Qc.c x14) (fun H18=>
 ldT H18 Qc.c (b16,0) fun x19=>
 nw (Qc.c Qc.zero) (fun b21 H22=>
 stT (b21,0) (Qc.c x19) (fun H23=>
 dr H23 fun Hs24=>
 ldS Hs24 ((b1,0).1,(b1,0).2+0) fun x26=>
 catOk x26 ([46]:Str)∧
 ldS Hs24 ((b16,0).1,(b16,0).2+3) fun x29=>
 catOk (x26++([46]:Str)) x29∧
 ldL Hs24 ((b16,0).1,(b16,0).2+4) fun x32=>
 QS C x32 (fun r35 H36=>
 Heap.le Hs24 H36∧
 st ((b21,0).1,(b21,0).2+3) (sv ((x26++([46]:Str))++x29)) (fun H37=>
 st ((b21,0).1,(b21,0).2+4) (slv r35) (fun H38=>
 st ((b21,0).1,(b21,0).2+5) (slv Sl.nil) (fun H39=>
 ldL H39 ((b16,0).1,(b16,0).2+5) fun x40=>
 lp (α:=Int) 0 H39 (fun x42 J43 H44=>
 ift (decide ((x42:Int) < (Sl.len x40:Int)))
 (ixa x40 x42 fun p46=>
 ldT H44 Qg.c (p46.1,p46.2+(x42:Int).toNat*2) fun x51=>
 nw (Qg.c Qg.zero) (fun b53 H54=>
 stT (b53,0) (Qg.c x51) (fun H55=>
 dr H55 fun Hs56=>
 ldL Hs56 ((b21,0).1,(b21,0).2+5) fun x58=>
 ldS Hs56 ((b1,0).1,(b1,0).2+0) fun x60=>
 catOk x60 ([46]:Str)∧
 ldS Hs56 ((b53,0).1,(b53,0).2+0) fun x63=>
 catOk (x60++([46]:Str)) x63∧
 ldT Hs56 Qa.c (b1,0) fun x66=>
 ldL Hs56 ((b53,0).1,(b53,0).2+1) fun x68=>
 ldT Hs56 Qo.c ((b16,0).1,(b16,0).2+0) fun x70=>
 QX C E p_p x66 x68 x70 (fun r73 H74=>
 Heap.le Hs56 H74∧
 nw ((Qg.c (⟨((x60++([46]:Str))++x63),r73⟩:Qg))++[]) (fun b76 H77=>
 Heap.le Hs56 H77∧
 apS (Qg.c Qg.zero) 40 x58 (Sl.of (some (b76,0)) 1 1) (fun r79 H80=>
 Heap.le Hs56 H80∧
 st ((b21,0).1,(b21,0).2+5) (slv r79) (fun H81=>
 J43 (w .i64 (x42+1)) H81) H80) H77) H74) H55) H54) H44)
 (dr H44 fun Hs82=>
 nck p_out fun p84=>
 ldL Hs82 (p84.1,p84.2+2) fun x86=>
 ldT Hs82 Qc.c (b21,0) fun x88=>
 nw ((Qc.c x88)++[]) (fun b91 H92=>
 Heap.le Hs82 H92∧
 apS (Qc.c Qc.zero) 88 x86 (Sl.of (some (b91,0)) 1 1) (fun r94 H95=>
 Heap.le Hs82 H95∧
 nck p_out fun p96=>
 st (p96.1,p96.2+2) (slv r94) (fun H98=>
 J6 (w .i64 (x5+1)) H98) H95) H92) H44))) H38) H37) H36) H23) H22) H18) H17) H7)
 (ldL H7 ((b1,0).1,(b1,0).2+3) fun x99=>
 lp (α:=Int) 0 H7 (fun x101 J102 H103=>
 ift (decide ((x101:Int) < (Sl.len x99:Int)))
 (ixa x99 x101 fun p105=>
 ldT H103 Qh.c (p105.1,p105.2+(x101:Int).toNat*6) fun x110=>
 nw (Qh.c Qh.zero) (fun b112 H113=>
 stT (b112,0) (Qh.c x110) (fun H114=>
 dr H114 fun Hs115=>
 ldS Hs115 ((b1,0).1,(b1,0).2+0) fun x117=>
 catOk x117 ([46]:Str)∧
 ldS Hs115 ((b112,0).1,(b112,0).2+4) fun x120=>
 catOk (x117++([46]:Str)) x120∧
 ldT Hs115 Qa.c (b1,0) fun x123=>
 ldL Hs115 ((b112,0).1,(b112,0).2+5) fun x125=>
 ldT Hs115 Qo.c ((b112,0).1,(b112,0).2+0) fun x127=>
 QX C E p_p x123 x125 x127 (fun r130 H131=>
 Heap.le Hs115 H131∧
 st ((b112,0).1,(b112,0).2+4) (sv ((x117++([46]:Str))++x120)) (fun H132=>
 st ((b112,0).1,(b112,0).2+5) (slv r130) (fun H133=>
 dr H133 fun Hs134=>
 nck p_out fun p136=>
 ldL Hs134 (p136.1,p136.2+3) fun x138=>
 ldT Hs134 Qh.c (b112,0) fun x140=>
 nw ((Qh.c x140)++[]) (fun b143 H144=>
 Heap.le Hs134 H144∧
 apS (Qh.c Qh.zero) 64 x138 (Sl.of (some (b143,0)) 1 1) (fun r146 H147=>
 Heap.le Hs134 H147∧
 nck p_out fun p148=>
 st (p148.1,p148.2+3) (slv r146) (fun H150=>
 J102 (w .i64 (x101+1)) H150) H147) H144) H133) H132) H131) H114) H113) H103)
 (ldL H103 ((b1,0).1,(b1,0).2+4) fun x151=>
 lp (α:=Int) 0 H103 (fun x153 J154 H155=>
 ift (decide ((x153:Int) < (Sl.len x151:Int)))
 (ixa x151 x153 fun p157=>
 ldT H155 Qj.c (p157.1,p157.2+(x153:Int).toNat*6) fun x162=>
 nw (Qj.c Qj.zero) (fun b164 H165=>
 stT (b164,0) (Qj.c x162) (fun H166=>
 jn (α:=Unit) (fun x168 H169=>
 dr H169 fun Hs193=>
 ldT Hs193 Qa.c (b1,0) fun x195=>
 ldL Hs193 ((b164,0).1,(b164,0).2+3) fun x197=>
 ldL Hs193 ((b164,0).1,(b164,0).2+4) fun x199=>
 Qap C E p_p x195 x197 (fun r202 H203=>
 Heap.le Hs193 H203∧
 QS C x199 (fun r205 H206=>
 Heap.le Hs193 H206∧
 st ((b164,0).1,(b164,0).2+3) (slv r202) (fun H207=>
 st ((b164,0).1,(b164,0).2+4) (slv r205) (fun H208=>
 ldT H208 Qa.c (b1,0) fun x209=>
 ldL H208 ((b164,0).1,(b164,0).2+5) fun x211=>
 Qav C E p_p x209 x211 (fun r213 H214=>
 st ((b164,0).1,(b164,0).2+5) (slv r213) (fun H215=>
 dr H215 fun Hs216=>
 nck p_out fun p218=>
 ldL Hs216 (p218.1,p218.2+4) fun x220=>
 ldT Hs216 Qj.c (b164,0) fun x222=>
 nw ((Qj.c x222)++[]) (fun b225 H226=>
 Heap.le Hs216 H226∧
 apS (Qj.c Qj.zero) 104 x220 (Sl.of (some (b225,0)) 1 1) (fun r228 H229=>
 Heap.le Hs216 H229∧
 nck p_out fun p230=>
 st (p230.1,p230.2+4) (slv r228) (fun H232=>
 J154 (w .i64 (x153+1)) H232) H229) H226) H215) H214) H208) H207) H206) H203) H169)
 (fun J167=>ldT H166 Qa.c (b1,0) fun x171=>
 ldS H166 ((b164,0).1,(b164,0).2+2) fun x173=>
 ldT H166 Qo.c ((b164,0).1,(b164,0).2+0) fun x175=>
 Qah C E p_p x171 x173 2 x175 (fun r177 H178=>
 st ((b164,0).1,(b164,0).2+2) (sv r177) (fun H179=>
 ldS H179 ((b164,0).1,(b164,0).2+2) fun x180=>
 ldS H179 ((b1,0).1,(b1,0).2+0) fun x182=>
 catOk x182 ([46]:Str)∧
 Qca C x180 (x182++([46]:Str)) (fun r185 H186=>
 ift (!r185)
 (ldT H186 Qa.c (b1,0) fun x188=>
 ldT H186 Qo.c ((b164,0).1,(b164,0).2+0) fun x190=>
 QG C E x188 x190 63 (fun H192=>
 J167 () H192) H186)
 (J167 () H186)) H179) H178) H166)) H165) H155)
 (ldL H155 ((b1,0).1,(b1,0).2+5) fun x233=>
 lp (α:=Int) 0 H155 (fun x235 J236 H237=>
 ift (decide ((x235:Int) < (Sl.len x233:Int)))
 (ixa x233 x235 fun p239=>
 ldT H237 Qm.c (p239.1,p239.2+(x235:Int).toNat*4) fun x244=>
 nw (Qm.c Qm.zero) (fun b246 H247=>
 stT (b246,0) (Qm.c x244) (fun H248=>
 dr H248 fun Hs249=>
 ldS Hs249 ((b1,0).1,(b1,0).2+0) fun x251=>
 catOk x251 ([46]:Str)∧
 ldS Hs249 ((b246,0).1,(b246,0).2+2) fun x254=>
 catOk (x251++([46]:Str)) x254∧
 ldT Hs249 Qa.c (b1,0) fun x257=>
 ldL Hs249 ((b246,0).1,(b246,0).2+3) fun x259=>
 Qav C E p_p x257 x259 (fun r262 H263=>
 Heap.le Hs249 H263∧
 st ((b246,0).1,(b246,0).2+2) (sv ((x251++([46]:Str))++x254)) (fun H264=>
 st ((b246,0).1,(b246,0).2+3) (slv r262) (fun H265=>
 dr H265 fun Hs266=>
 nck p_out fun p268=>
 ldL Hs266 (p268.1,p268.2+5) fun x270=>
 ldT Hs266 Qm.c (b246,0) fun x272=>
 nw ((Qm.c x272)++[]) (fun b275 H276=>
 Heap.le Hs266 H276∧
 apS (Qm.c Qm.zero) 56 x270 (Sl.of (some (b275,0)) 1 1) (fun r278 H279=>
 Heap.le Hs266 H279∧
 nck p_out fun p280=>
 st (p280.1,p280.2+5) (slv r278) (fun H282=>
 J236 (w .i64 (x235+1)) H282) H279) H276) H265) H264) H263) H248) H247) H237)
 (K H237))))))))) H
theorem QiL (C E p_p p_out p_m K H) (h:QeO C E p_p p_out p_m K H):Qc2 C E p_p p_out p_m K H:=by
 refine SpecP.enter Tryz.func26 rfl Tryz.ntmps26 rfl (GC.sub [(0,pv p_p),(1,pv p_out),(2,.agg (Qa.c p_m).toArray)] ⟨rfl,rfl,rfl,trivial⟩ (Zo (GL.box (v:=.agg (Qa.c p_m).toArray) (cs:=Qa.c p_m) h trivial rfl rfl rfl ?_)))
 intro b1 H2 h
 refine GL.nil (GC.seq (Zo (Zf (Yl h fun x3 h=>?_))))
 refine Zq (Zm (GL.nil (GC.block (Yp h (fun x5=>[(20,.int .i64 x5),(0,pv p_p),(1,pv p_out),(5,pv (some (b1,0))),(18,slv x3),(19,.int .i64 (Sl.len x3:Int))]) ?_))))
 intro x5 H7 J6 h
 refine Zo (Zi (.bool (decide ((x5:Int) < (Sl.len x3:Int)))) (GL.nil (GC.seq (Yd h (fun u8 h=>?_) fun u8 h=>?_))))
 refine GC.skip (GC.seq (GC.block (Zo (Yx h fun p9 h=>?_))))
 obtain ⟨x14,v15,h⟩:=h
 refine Zv (OV.loadT rfl rfl rfl v15) (GL.alloc (cs:=Qc.c Qc.zero) h trivial rfl rfl rfl ?_)
 intro b16 H17 h
 refine GL.storeT (p:=(b16,0)) (vs:=Qc.c x14) h trivial rfl rfl rfl rfl ?_
 intro H18 h
 refine GL.nil (Zo ?_)
 obtain ⟨x19,v20,h⟩:=h
 refine Zv (OV.loadT rfl rfl rfl v20) (GL.alloc (cs:=Qc.c Qc.zero) h trivial rfl rfl rfl ?_)
 intro b21 H22 h
 refine GL.storeT (p:=(b21,0)) (vs:=Qc.c x19) h trivial rfl rfl rfl rfl ?_
 intro H23 h
 refine GL.nil (GC.seq ?_)
 obtain ⟨Hs24,hle25,h⟩:=h
 refine GC.tail (Hs:=Hs24) 10 (by kernel_rfl) hle25 (by kernel_rfl) (GT.takeP 0 rfl trivial (OV.fieldAddr (p:=(b1,0)) rfl rfl) ?_)
 obtain ⟨x26,v27,h⟩:=h
 refine GT.takeP 1 rfl trivial (OV.load (p:=((b1,0).1,(b1,0).2+0)) rfl rfl v27) ?_
 obtain ⟨hl28,h⟩:=h
 refine GT.takeP 2 rfl trivial (OV.cat (a:=x26) (b:=([46]:Str)) rfl rfl hl28) (GT.takeP 3 rfl trivial (OV.fieldAddr (p:=(b16,0)) rfl rfl) ?_)
 obtain ⟨x29,v30,h⟩:=h
 refine GT.takeP 4 rfl trivial (OV.load (p:=((b16,0).1,(b16,0).2+3)) rfl rfl v30) ?_
 obtain ⟨hl31,h⟩:=h
 refine GT.takeP 5 rfl trivial (OV.cat (a:=(x26++([46]:Str))) (b:=x29) rfl rfl hl31) (GT.takeP 6 rfl trivial (OV.fieldAddr (p:=(b16,0)) rfl rfl) ?_)
 obtain ⟨x32,v33,h⟩:=h
 refine GT.takeP 7 rfl trivial (OV.load (p:=((b16,0).1,(b16,0).2+4)) rfl rfl v33) (GT.takeP 9 rfl trivial (OV.fieldAddr (p:=(b21,0)) rfl rfl) (GT.eff 8 rfl (by kernel_rfl) rfl (Zc h Qco ?_)))
 rintro _ H36 ⟨r35,rfl,h⟩
 obtain ⟨hle34,h⟩:=h
 refine GT.back hle34 (GT.done (by kernel_rfl) ?_)
 show GL _ _ _ _ _ [_,_,_,_,_] _ _
 refine GL.store (p:=((b21,0).1,(b21,0).2+3)) (v:=sv ((x26++([46]:Str))++x29)) h trivial rfl rfl rfl rfl ?_
 intro H37 h
 refine Zf (GL.store (p:=((b21,0).1,(b21,0).2+4)) (v:=slv r35) h trivial rfl rfl rfl rfl ?_)
 intro H38 h
 refine Zf (GL.store (p:=((b21,0).1,(b21,0).2+5)) (v:=slv Sl.nil) h trivial rfl rfl rfl rfl ?_)
 intro H39 h
 refine GL.nil (GC.seq (Zo (Zf (Yl h fun x40 h=>?_))))
 refine Zq (Zm (GL.nil (GC.block (Yp h (fun x42=>[(40,.int .i64 x42),(0,pv p_p),(1,pv p_out),(5,pv (some (b1,0))),(7,pv (some (b16,0))),(8,pv (some (b21,0))),(18,slv x3),(19,.int .i64 (Sl.len x3:Int)),(20,.int .i64 x5),(38,slv x40),(39,.int .i64 (Sl.len x40:Int))]) ?_))))
 intro x42 H44 J43 h
 refine Zo (Zi (.bool (decide ((x42:Int) < (Sl.len x40:Int)))) (GL.nil (GC.seq (Yd h (fun u45 h=>?_) fun u45 h=>?_))))
 refine GC.skip (GC.seq (GC.block (Zo (Yx h fun p46 h=>?_))))
 obtain ⟨x51,v52,h⟩:=h
 refine Zv (OV.loadT rfl rfl rfl v52) (GL.alloc (cs:=Qg.c Qg.zero) h trivial rfl rfl rfl ?_)
 intro b53 H54 h
 refine GL.storeT (p:=(b53,0)) (vs:=Qg.c x51) h trivial rfl rfl rfl rfl ?_
 intro H55 h
 refine GL.nil ?_
 obtain ⟨Hs56,hle57,h⟩:=h
 refine GC.tail (Hs:=Hs56) 19 (by kernel_rfl) hle57 (by kernel_rfl) (GT.takeP 0 rfl trivial (OV.fieldAddr (p:=(b21,0)) rfl rfl) ?_)
 obtain ⟨x58,v59,h⟩:=h
 refine GT.takeP 1 rfl trivial (OV.load (p:=((b21,0).1,(b21,0).2+5)) rfl rfl v59) (GT.takeP 2 rfl trivial (OV.fieldAddr (p:=(b1,0)) rfl rfl) ?_)
 obtain ⟨x60,v61,h⟩:=h
 refine GT.takeP 3 rfl trivial (OV.load (p:=((b1,0).1,(b1,0).2+0)) rfl rfl v61) ?_
 obtain ⟨hl62,h⟩:=h
 refine GT.takeP 4 rfl trivial (OV.cat (a:=x60) (b:=([46]:Str)) rfl rfl hl62) (GT.takeP 5 rfl trivial (OV.fieldAddr (p:=(b53,0)) rfl rfl) ?_)
 obtain ⟨x63,v64,h⟩:=h
 refine GT.takeP 6 rfl trivial (OV.load (p:=((b53,0).1,(b53,0).2+0)) rfl rfl v64) ?_
 obtain ⟨hl65,h⟩:=h
 refine GT.takeP 7 rfl trivial (OV.cat (a:=(x60++([46]:Str))) (b:=x63) rfl rfl hl65) (GT.takeP 8 rfl trivial (OV.move (v:=pv p_p) rfl) ?_)
 obtain ⟨x66,v67,h⟩:=h
 refine GT.takeP 9 rfl trivial (OV.loadT (p:=(b1,0)) (cs:=Qa.c x66) rfl rfl rfl v67) (GT.takeP 10 rfl trivial (OV.fieldAddr (p:=(b53,0)) rfl rfl) ?_)
 obtain ⟨x68,v69,h⟩:=h
 refine GT.takeP 11 rfl trivial (OV.load (p:=((b53,0).1,(b53,0).2+1)) rfl rfl v69) (GT.takeP 12 rfl trivial (OV.fieldAddr (p:=(b16,0)) rfl rfl) ?_)
 obtain ⟨x70,v71,h⟩:=h
 refine GT.takeP 13 rfl trivial (OV.loadT (p:=((b16,0).1,(b16,0).2+0)) (cs:=Qo.c x70) rfl rfl rfl v71) (GT.eff 14 rfl (by kernel_rfl) rfl (GL.callP h (fun _ _ _ _ h=>h) trivial rfl QdY (vs:=[pv p_p,.agg (Qa.c x66).toArray,slv x68,.agg (Qo.c x70).toArray]) rfl ?_))
 rintro _ H74 ⟨r73,rfl,h⟩
 obtain ⟨hle72,h⟩:=h
 refine GT.back hle72 (GT.takeP 15 rfl trivial (OV.build (vs:=[(0,sv ((x60++([46]:Str))++x63)),(1,slv r73)]) (v:=.agg (Qg.c (⟨((x60++([46]:Str))++x63),r73⟩:Qg)).toArray) rfl (fun _=>by kernel_rfl)) (GT.eff 16 rfl (by kernel_rfl) rfl (GL.buildSlice (cs:=(Qg.c (⟨((x60++([46]:Str))++x63),r73⟩:Qg))++[]) h trivial rfl (vs:=[(0,.agg (Qg.c (⟨((x60++([46]:Str))++x63),r73⟩:Qg)).toArray)]) rfl ⟨63,fun _=>by kernel_rfl⟩ ?_)))
 intro b76 H77 h
 obtain ⟨hle75,h⟩:=h
 refine GT.back hle75 (GT.eff 17 rfl (by kernel_rfl) rfl (GL.appendS (s:=x58) (s2:=(Sl.of (some (b76,0)) 1 1)) (zc:=Qg.c Qg.zero) (bytes:=40) h trivial rfl rfl rfl ⟨⟨_,_,_,rfl,rfl,rfl,rfl,rfl,rfl⟩⟩ rfl ?_))
 intro r79 H80 h
 obtain ⟨hle78,h⟩:=h
 refine GT.back hle78 (GT.takeP 18 rfl trivial (OV.fieldAddr (p:=(b21,0)) rfl rfl) (GT.done (by kernel_rfl) ?_))
 show GL _ _ _ _ _ [_] _ _
 refine GL.store (p:=((b21,0).1,(b21,0).2+5)) (v:=slv r79) h trivial rfl rfl rfl rfl ?_
 intro H81 h
 refine GL.nil_to I3 (GC.region (Zi (.int .i64 (w .i64 (x42+1))) (Zm ?_)))
 exact Yj I3 (w .i64 (x42+1)) h
 refine GC.exit_to I3 ?_
 obtain ⟨Hs82,hle83,h⟩:=h
 refine GC.tail (Hs:=Hs82) 10 (by kernel_rfl) hle83 (by kernel_rfl) (GT.takeP 0 rfl trivial (OV.move (v:=pv p_out) rfl) (GT.takeP 1 rfl trivial (OV.move (v:=pv p_out) rfl) ?_))
 obtain ⟨p84,hp85,h⟩:=h
 refine GT.takeP 2 rfl trivial (OV.nilCheck (q:=p_out) rfl hp85) (GT.takeP 3 rfl trivial (OV.fieldAddr (p:=p84) rfl rfl) ?_)
 obtain ⟨x86,v87,h⟩:=h
 refine GT.takeP 4 rfl trivial (OV.load (p:=(p84.1,p84.2+2)) rfl rfl v87) ?_
 obtain ⟨x88,v89,h⟩:=h
 refine GT.takeP 5 rfl trivial (OV.loadT (p:=(b21,0)) (cs:=Qc.c x88) rfl rfl rfl v89) (GT.eff 6 rfl (by kernel_rfl) rfl (GL.buildSlice (cs:=(Qc.c x88)++[]) h trivial rfl (vs:=[(0,.agg (Qc.c x88).toArray)]) rfl ⟨66,fun _=>by kernel_rfl⟩ ?_))
 intro b91 H92 h
 obtain ⟨hle90,h⟩:=h
 refine GT.back hle90 (GT.eff 7 rfl (by kernel_rfl) rfl (GL.appendS (s:=x86) (s2:=(Sl.of (some (b91,0)) 1 1)) (zc:=Qc.c Qc.zero) (bytes:=88) h trivial rfl rfl rfl ⟨⟨_,_,_,rfl,rfl,rfl,rfl,rfl,rfl⟩⟩ rfl ?_))
 intro r94 H95 h
 obtain ⟨hle93,h⟩:=h
 refine GT.back hle93 ?_
 obtain ⟨p96,hp97,h⟩:=h
 refine GT.takeP 8 rfl trivial (OV.nilCheck (q:=p_out) rfl hp97) (GT.takeP 9 rfl trivial (OV.fieldAddr (p:=p96) rfl rfl) (GT.done (by kernel_rfl) ?_))
 show GL _ _ _ _ _ [_] _ _
 refine GL.store (p:=(p96.1,p96.2+2)) (v:=slv r94) h trivial rfl rfl rfl rfl ?_
 intro H98 h
 refine GL.nil_to I3 (GC.region (Zi (.int .i64 (w .i64 (x5+1))) (Zm ?_)))
 exact Yj I3 (w .i64 (x5+1)) h
 refine GC.exit_to I3 (GC.seq (Zo (Zf ?_)))
 refine Yl h fun x99 h=>?_
 refine Zq (Zm (GL.nil (GC.block (Yp h (fun x101=>[(78,.int .i64 x101),(0,pv p_p),(1,pv p_out),(5,pv (some (b1,0))),(76,slv x99),(77,.int .i64 (Sl.len x99:Int))]) ?_))))
 intro x101 H103 J102 h
 refine Zo (Zi (.bool (decide ((x101:Int) < (Sl.len x99:Int)))) (GL.nil (GC.seq (Yd h (fun u104 h=>?_) fun u104 h=>?_))))
 refine GC.skip (GC.seq (GC.block (Zo (Yx h fun p105 h=>?_))))
 obtain ⟨x110,v111,h⟩:=h
 refine Zv (OV.loadT rfl rfl rfl v111) (GL.alloc (cs:=Qh.c Qh.zero) h trivial rfl rfl rfl ?_)
 intro b112 H113 h
 refine GL.storeT (p:=(b112,0)) (vs:=Qh.c x110) h trivial rfl rfl rfl rfl ?_
 intro H114 h
 refine GL.nil (GC.seq ?_)
 obtain ⟨Hs115,hle116,h⟩:=h
 refine GC.tail (Hs:=Hs115) 14 (by kernel_rfl) hle116 (by kernel_rfl) (GT.takeP 0 rfl trivial (OV.fieldAddr (p:=(b1,0)) rfl rfl) ?_)
 obtain ⟨x117,v118,h⟩:=h
 refine GT.takeP 1 rfl trivial (OV.load (p:=((b1,0).1,(b1,0).2+0)) rfl rfl v118) ?_
 obtain ⟨hl119,h⟩:=h
 refine GT.takeP 2 rfl trivial (OV.cat (a:=x117) (b:=([46]:Str)) rfl rfl hl119) (GT.takeP 3 rfl trivial (OV.fieldAddr (p:=(b112,0)) rfl rfl) ?_)
 obtain ⟨x120,v121,h⟩:=h
 refine GT.takeP 4 rfl trivial (OV.load (p:=((b112,0).1,(b112,0).2+4)) rfl rfl v121) ?_
 obtain ⟨hl122,h⟩:=h
 refine GT.takeP 5 rfl trivial (OV.cat (a:=(x117++([46]:Str))) (b:=x120) rfl rfl hl122) (GT.takeP 6 rfl trivial (OV.move (v:=pv p_p) rfl) ?_)
 obtain ⟨x123,v124,h⟩:=h
 refine GT.takeP 7 rfl trivial (OV.loadT (p:=(b1,0)) (cs:=Qa.c x123) rfl rfl rfl v124) (GT.takeP 8 rfl trivial (OV.fieldAddr (p:=(b112,0)) rfl rfl) ?_)
 obtain ⟨x125,v126,h⟩:=h
 refine GT.takeP 9 rfl trivial (OV.load (p:=((b112,0).1,(b112,0).2+5)) rfl rfl v126) (GT.takeP 10 rfl trivial (OV.fieldAddr (p:=(b112,0)) rfl rfl) ?_)
 obtain ⟨x127,v128,h⟩:=h
 refine GT.takeP 11 rfl trivial (OV.loadT (p:=((b112,0).1,(b112,0).2+0)) (cs:=Qo.c x127) rfl rfl rfl v128) (GT.takeP 13 rfl trivial (OV.fieldAddr (p:=(b112,0)) rfl rfl) (GT.eff 12 rfl (by kernel_rfl) rfl (GL.callP h (fun _ _ _ _ h=>h) trivial rfl QdY (vs:=[pv p_p,.agg (Qa.c x123).toArray,slv x125,.agg (Qo.c x127).toArray]) rfl ?_)))
 rintro _ H131 ⟨r130,rfl,h⟩
 obtain ⟨hle129,h⟩:=h
 refine GT.back hle129 (GT.done (by kernel_rfl) ?_)
 show GL _ _ _ _ _ [_,_,_] _ _
 refine GL.store (p:=((b112,0).1,(b112,0).2+4)) (v:=sv ((x117++([46]:Str))++x120)) h trivial rfl rfl rfl rfl ?_
 intro H132 h
 refine Zf (GL.store (p:=((b112,0).1,(b112,0).2+5)) (v:=slv r130) h trivial rfl rfl rfl rfl ?_)
 intro H133 h
 refine GL.nil ?_
 obtain ⟨Hs134,hle135,h⟩:=h
 refine GC.tail (Hs:=Hs134) 10 (by kernel_rfl) hle135 (by kernel_rfl) (GT.takeP 0 rfl trivial (OV.move (v:=pv p_out) rfl) (GT.takeP 1 rfl trivial (OV.move (v:=pv p_out) rfl) ?_))
 obtain ⟨p136,hp137,h⟩:=h
 refine GT.takeP 2 rfl trivial (OV.nilCheck (q:=p_out) rfl hp137) (GT.takeP 3 rfl trivial (OV.fieldAddr (p:=p136) rfl rfl) ?_)
 obtain ⟨x138,v139,h⟩:=h
 refine GT.takeP 4 rfl trivial (OV.load (p:=(p136.1,p136.2+3)) rfl rfl v139) ?_
 obtain ⟨x140,v141,h⟩:=h
 refine GT.takeP 5 rfl trivial (OV.loadT (p:=(b112,0)) (cs:=Qh.c x140) rfl rfl rfl v141) (GT.eff 6 rfl (by kernel_rfl) rfl (GL.buildSlice (cs:=(Qh.c x140)++[]) h trivial rfl (vs:=[(0,.agg (Qh.c x140).toArray)]) rfl ⟨29,fun _=>by kernel_rfl⟩ ?_))
 intro b143 H144 h
 obtain ⟨hle142,h⟩:=h
 refine GT.back hle142 (GT.eff 7 rfl (by kernel_rfl) rfl (GL.appendS (s:=x138) (s2:=(Sl.of (some (b143,0)) 1 1)) (zc:=Qh.c Qh.zero) (bytes:=64) h trivial rfl rfl rfl ⟨⟨_,_,_,rfl,rfl,rfl,rfl,rfl,rfl⟩⟩ rfl ?_))
 intro r146 H147 h
 obtain ⟨hle145,h⟩:=h
 refine GT.back hle145 ?_
 obtain ⟨p148,hp149,h⟩:=h
 refine GT.takeP 8 rfl trivial (OV.nilCheck (q:=p_out) rfl hp149) (GT.takeP 9 rfl trivial (OV.fieldAddr (p:=p148) rfl rfl) (GT.done (by kernel_rfl) ?_))
 show GL _ _ _ _ _ [_] _ _
 refine GL.store (p:=(p148.1,p148.2+3)) (v:=slv r146) h trivial rfl rfl rfl rfl ?_
 intro H150 h
 refine GL.nil_to I3 (GC.region (Zi (.int .i64 (w .i64 (x101+1))) (Zm ?_)))
 exact Yj I3 (w .i64 (x101+1)) h
 refine GC.exit_to I3 (GC.seq (Zo (Zf ?_)))
 refine Yl h fun x151 h=>?_
 refine Zq (Zm (GL.nil (GC.block (Yp h (fun x153=>[(111,.int .i64 x153),(0,pv p_p),(1,pv p_out),(5,pv (some (b1,0))),(109,slv x151),(110,.int .i64 (Sl.len x151:Int))]) ?_))))
 intro x153 H155 J154 h
 refine Zo (Zi (.bool (decide ((x153:Int) < (Sl.len x151:Int)))) (GL.nil (GC.seq (Yd h (fun u156 h=>?_) fun u156 h=>?_))))
 refine GC.skip (GC.seq (GC.block (Zo (Yx h fun p157 h=>?_))))
 obtain ⟨x162,v163,h⟩:=h
 refine Zv (OV.loadT rfl rfl rfl v163) (GL.alloc (cs:=Qj.c Qj.zero) h trivial rfl rfl rfl ?_)
 intro b164 H165 h
 refine GL.storeT (p:=(b164,0)) (vs:=Qj.c x162) h trivial rfl rfl rfl rfl ?_
 intro H166 h
 refine GL.nil ?_
 obtain ⟨J167,h,hR170⟩:=h
 refine GC.join (α:=Unit) J167 (fun _=>[(0,pv p_p),(1,pv p_out),(5,pv (some (b1,0))),(14,pv (some (b164,0))),(109,slv x151),(110,.int .i64 (Sl.len x151:Int)),(111,.int .i64 x153)]) ?_ ?_
 refine Zo (Zm ?_)
 obtain ⟨x171,v172,h⟩:=h
 refine Zv (OV.loadT rfl rfl rfl v172) (Zf (Yl h fun x173 h=>?_))
 refine Zf ?_
 obtain ⟨x175,v176,h⟩:=h
 refine Zv (OV.loadT rfl rfl rfl v176) (GL.callP h (fun _ _ _ _ h=>h) trivial rfl Qbv (vs:=[pv p_p,.agg (Qa.c x171).toArray,sv x173,.int .i64 2,.agg (Qo.c x175).toArray]) rfl ?_)
 rintro _ H178 ⟨r177,rfl,h⟩
 refine Zf (GL.store (p:=((b164,0).1,(b164,0).2+2)) (v:=sv r177) h trivial rfl rfl rfl rfl ?_)
 intro H179 h
 refine GL.nil (Zo (Zf (Yl h fun x180 h=>?_)))
 refine Zf (Yl h fun x182 h=>?_)
 obtain ⟨hl184,h⟩:=h
 refine Zv (OV.cat (a:=x182) (b:=([46]:Str)) rfl rfl hl184) (Zc h Qfw ?_)
 rintro _ H186 ⟨r185,rfl,h⟩
 refine Zv (OV.not rfl) (GL.nil (Yd h (fun u187 h=>?_) fun u187 h=>?_))
 refine GC.region ?_
 obtain ⟨x188,v189,h⟩:=h
 refine Zv (OV.loadT rfl rfl rfl v189) (Zf ?_)
 obtain ⟨x190,v191,h⟩:=h
 refine Zv (OV.loadT rfl rfl rfl v191) (GL.callP h (fun _ _ _ _ h=>h) trivial rfl Q6 (vs:=[.agg (Qa.c x188).toArray,.agg (Qo.c x190).toArray,.int .i64 63]) rfl ?_)
 rintro _ H192 ⟨rfl,h⟩
 exact Yj I3 () h
 exact Yk I3 () h
 intro x168 H169 h
 replace h:=hR170 x168 H169 h
 refine GC.seq ?_
 obtain ⟨Hs193,hle194,h⟩:=h
 refine GC.tail (Hs:=Hs193) 9 (by kernel_rfl) hle194 (by kernel_rfl) (GT.takeP 0 rfl trivial (OV.move (v:=pv p_p) rfl) ?_)
 obtain ⟨x195,v196,h⟩:=h
 refine GT.takeP 1 rfl trivial (OV.loadT (p:=(b1,0)) (cs:=Qa.c x195) rfl rfl rfl v196) (GT.takeP 2 rfl trivial (OV.fieldAddr (p:=(b164,0)) rfl rfl) ?_)
 obtain ⟨x197,v198,h⟩:=h
 refine GT.takeP 3 rfl trivial (OV.load (p:=((b164,0).1,(b164,0).2+3)) rfl rfl v198) (GT.takeP 5 rfl trivial (OV.fieldAddr (p:=(b164,0)) rfl rfl) ?_)
 obtain ⟨x199,v200,h⟩:=h
 refine GT.takeP 6 rfl trivial (OV.load (p:=((b164,0).1,(b164,0).2+4)) rfl rfl v200) (GT.eff 4 rfl (by kernel_rfl) rfl (GL.callP h (fun _ _ _ _ h=>h) trivial rfl Qch (vs:=[pv p_p,.agg (Qa.c x195).toArray,slv x197]) rfl ?_))
 rintro _ H203 ⟨r202,rfl,h⟩
 obtain ⟨hle201,h⟩:=h
 refine GT.back hle201 (GT.takeP 8 rfl trivial (OV.fieldAddr (p:=(b164,0)) rfl rfl) (GT.eff 7 rfl (by kernel_rfl) rfl (Zc h Qco ?_)))
 rintro _ H206 ⟨r205,rfl,h⟩
 obtain ⟨hle204,h⟩:=h
 refine GT.back hle204 (GT.done (by kernel_rfl) ?_)
 show GL _ _ _ _ _ [_,_,_] _ _
 refine GL.store (p:=((b164,0).1,(b164,0).2+3)) (v:=slv r202) h trivial rfl rfl rfl rfl ?_
 intro H207 h
 refine Zf (GL.store (p:=((b164,0).1,(b164,0).2+4)) (v:=slv r205) h trivial rfl rfl rfl rfl ?_)
 intro H208 h
 refine GL.nil (Zo (Zm ?_))
 obtain ⟨x209,v210,h⟩:=h
 refine Zv (OV.loadT rfl rfl rfl v210) (Zf (Yl h fun x211 h=>?_))
 refine GL.callP h (fun _ _ _ _ h=>h) trivial rfl QeJ (vs:=[pv p_p,.agg (Qa.c x209).toArray,slv x211]) rfl ?_
 rintro _ H214 ⟨r213,rfl,h⟩
 refine Zf (GL.store (p:=((b164,0).1,(b164,0).2+5)) (v:=slv r213) h trivial rfl rfl rfl rfl ?_)
 intro H215 h
 refine GL.nil ?_
 obtain ⟨Hs216,hle217,h⟩:=h
 refine GC.tail (Hs:=Hs216) 10 (by kernel_rfl) hle217 (by kernel_rfl) (GT.takeP 0 rfl trivial (OV.move (v:=pv p_out) rfl) (GT.takeP 1 rfl trivial (OV.move (v:=pv p_out) rfl) ?_))
 obtain ⟨p218,hp219,h⟩:=h
 refine GT.takeP 2 rfl trivial (OV.nilCheck (q:=p_out) rfl hp219) (GT.takeP 3 rfl trivial (OV.fieldAddr (p:=p218) rfl rfl) ?_)
 obtain ⟨x220,v221,h⟩:=h
 refine GT.takeP 4 rfl trivial (OV.load (p:=(p218.1,p218.2+4)) rfl rfl v221) ?_
 obtain ⟨x222,v223,h⟩:=h
 refine GT.takeP 5 rfl trivial (OV.loadT (p:=(b164,0)) (cs:=Qj.c x222) rfl rfl rfl v223) (GT.eff 6 rfl (by kernel_rfl) rfl (GL.buildSlice (cs:=(Qj.c x222)++[]) h trivial rfl (vs:=[(0,.agg (Qj.c x222).toArray)]) rfl ⟨45,fun _=>by kernel_rfl⟩ ?_))
 intro b225 H226 h
 obtain ⟨hle224,h⟩:=h
 refine GT.back hle224 (GT.eff 7 rfl (by kernel_rfl) rfl (GL.appendS (s:=x220) (s2:=(Sl.of (some (b225,0)) 1 1)) (zc:=Qj.c Qj.zero) (bytes:=104) h trivial rfl rfl rfl ⟨⟨_,_,_,rfl,rfl,rfl,rfl,rfl,rfl⟩⟩ rfl ?_))
 intro r228 H229 h
 obtain ⟨hle227,h⟩:=h
 refine GT.back hle227 ?_
 obtain ⟨p230,hp231,h⟩:=h
 refine GT.takeP 8 rfl trivial (OV.nilCheck (q:=p_out) rfl hp231) (GT.takeP 9 rfl trivial (OV.fieldAddr (p:=p230) rfl rfl) (GT.done (by kernel_rfl) ?_))
 show GL _ _ _ _ _ [_] _ _
 refine GL.store (p:=(p230.1,p230.2+4)) (v:=slv r228) h trivial rfl rfl rfl rfl ?_
 intro H232 h
 refine GL.nil_to I3 (GC.region (Zi (.int .i64 (w .i64 (x153+1))) (Zm ?_)))
 exact Yj I3 (w .i64 (x153+1)) h
 refine GC.exit_to I3 (Zo (Zf ?_))
 refine Yl h fun x233 h=>?_
 refine Zq (Zm (GL.nil (GC.block (Yp h (fun x235=>[(164,.int .i64 x235),(0,pv p_p),(1,pv p_out),(5,pv (some (b1,0))),(162,slv x233),(163,.int .i64 (Sl.len x233:Int))]) ?_))))
 intro x235 H237 J236 h
 refine Zo (Zi (.bool (decide ((x235:Int) < (Sl.len x233:Int)))) (GL.nil (GC.seq (Yd h (fun u238 h=>?_) fun u238 h=>?_))))
 refine GC.skip (GC.seq (GC.block (Zo (Yx h fun p239 h=>?_))))
 obtain ⟨x244,v245,h⟩:=h
 refine Zv (OV.loadT rfl rfl rfl v245) (GL.alloc (cs:=Qm.c Qm.zero) h trivial rfl rfl rfl ?_)
 intro b246 H247 h
 refine GL.storeT (p:=(b246,0)) (vs:=Qm.c x244) h trivial rfl rfl rfl rfl ?_
 intro H248 h
 refine GL.nil (GC.seq ?_)
 obtain ⟨Hs249,hle250,h⟩:=h
 refine GC.tail (Hs:=Hs249) 12 (by kernel_rfl) hle250 (by kernel_rfl) (GT.takeP 0 rfl trivial (OV.fieldAddr (p:=(b1,0)) rfl rfl) ?_)
 obtain ⟨x251,v252,h⟩:=h
 refine GT.takeP 1 rfl trivial (OV.load (p:=((b1,0).1,(b1,0).2+0)) rfl rfl v252) ?_
 obtain ⟨hl253,h⟩:=h
 refine GT.takeP 2 rfl trivial (OV.cat (a:=x251) (b:=([46]:Str)) rfl rfl hl253) (GT.takeP 3 rfl trivial (OV.fieldAddr (p:=(b246,0)) rfl rfl) ?_)
 obtain ⟨x254,v255,h⟩:=h
 refine GT.takeP 4 rfl trivial (OV.load (p:=((b246,0).1,(b246,0).2+2)) rfl rfl v255) ?_
 obtain ⟨hl256,h⟩:=h
 refine GT.takeP 5 rfl trivial (OV.cat (a:=(x251++([46]:Str))) (b:=x254) rfl rfl hl256) (GT.takeP 6 rfl trivial (OV.move (v:=pv p_p) rfl) ?_)
 obtain ⟨x257,v258,h⟩:=h
 refine GT.takeP 7 rfl trivial (OV.loadT (p:=(b1,0)) (cs:=Qa.c x257) rfl rfl rfl v258) (GT.takeP 8 rfl trivial (OV.fieldAddr (p:=(b246,0)) rfl rfl) ?_)
 obtain ⟨x259,v260,h⟩:=h
 refine GT.takeP 9 rfl trivial (OV.load (p:=((b246,0).1,(b246,0).2+3)) rfl rfl v260) (GT.takeP 11 rfl trivial (OV.fieldAddr (p:=(b246,0)) rfl rfl) (GT.eff 10 rfl (by kernel_rfl) rfl (GL.callP h (fun _ _ _ _ h=>h) trivial rfl QeJ (vs:=[pv p_p,.agg (Qa.c x257).toArray,slv x259]) rfl ?_)))
 rintro _ H263 ⟨r262,rfl,h⟩
 obtain ⟨hle261,h⟩:=h
 refine GT.back hle261 (GT.done (by kernel_rfl) ?_)
 show GL _ _ _ _ _ [_,_,_] _ _
 refine GL.store (p:=((b246,0).1,(b246,0).2+2)) (v:=sv ((x251++([46]:Str))++x254)) h trivial rfl rfl rfl rfl ?_
 intro H264 h
 refine Zf (GL.store (p:=((b246,0).1,(b246,0).2+3)) (v:=slv r262) h trivial rfl rfl rfl rfl ?_)
 intro H265 h
 refine GL.nil ?_
 obtain ⟨Hs266,hle267,h⟩:=h
 refine GC.tail (Hs:=Hs266) 10 (by kernel_rfl) hle267 (by kernel_rfl) (GT.takeP 0 rfl trivial (OV.move (v:=pv p_out) rfl) (GT.takeP 1 rfl trivial (OV.move (v:=pv p_out) rfl) ?_))
 obtain ⟨p268,hp269,h⟩:=h
 refine GT.takeP 2 rfl trivial (OV.nilCheck (q:=p_out) rfl hp269) (GT.takeP 3 rfl trivial (OV.fieldAddr (p:=p268) rfl rfl) ?_)
 obtain ⟨x270,v271,h⟩:=h
 refine GT.takeP 4 rfl trivial (OV.load (p:=(p268.1,p268.2+5)) rfl rfl v271) ?_
 obtain ⟨x272,v273,h⟩:=h
 refine GT.takeP 5 rfl trivial (OV.loadT (p:=(b246,0)) (cs:=Qm.c x272) rfl rfl rfl v273) (GT.eff 6 rfl (by kernel_rfl) rfl (GL.buildSlice (cs:=(Qm.c x272)++[]) h trivial rfl (vs:=[(0,.agg (Qm.c x272).toArray)]) rfl ⟨68,fun _=>by kernel_rfl⟩ ?_))
 intro b275 H276 h
 obtain ⟨hle274,h⟩:=h
 refine GT.back hle274 (GT.eff 7 rfl (by kernel_rfl) rfl (GL.appendS (s:=x270) (s2:=(Sl.of (some (b275,0)) 1 1)) (zc:=Qm.c Qm.zero) (bytes:=56) h trivial rfl rfl rfl ⟨⟨_,_,_,rfl,rfl,rfl,rfl,rfl,rfl⟩⟩ rfl ?_))
 intro r278 H279 h
 obtain ⟨hle277,h⟩:=h
 refine GT.back hle277 ?_
 obtain ⟨p280,hp281,h⟩:=h
 refine GT.takeP 8 rfl trivial (OV.nilCheck (q:=p_out) rfl hp281) (GT.takeP 9 rfl trivial (OV.fieldAddr (p:=p280) rfl rfl) (GT.done (by kernel_rfl) ?_))
 show GL _ _ _ _ _ [_] _ _
 refine GL.store (p:=(p280.1,p280.2+5)) (v:=slv r278) h trivial rfl rfl rfl rfl ?_
 intro H282 h
 refine GL.nil_to I3 (GC.region (Zi (.int .i64 (w .i64 (x235+1))) (Zm ?_)))
 exact Yj I3 (w .i64 (x235+1)) h
 exact GC.exit_ends (fun _ _ hf hs=>postP (E:=E) hf (Qt rfl hf hs ⟨rfl,h⟩))
def Qlu (C:Ctx) (p_m:Qa) (K:Str→Int→Heap→Prop) (H:Heap):Prop:=
 nw (Qa.c p_m) (fun b1 H2=>
 ldT H2 Qa.c (b1,0) fun x3=>
 Qb2 C x3 (fun r5 H6=>
 ift ((r5:Int) != 0)
 (K [] r5 H6)
 (nwB 147 5 (fun b8 H9=>
 nw ([pv none]) (fun b10 H11=>
 st (b10,0) (pv (some (b8,0))) (fun H12=>
 ldP H12 (b10,0) fun x13=>
 ldS H12 ((b1,0).1,(b1,0).2+0) fun x15=>
 nw ([sv [109,111,100,117,108,101,32],sv x15,sv [10]]) (fun b17 H18=>
 QA C x13 (Sl.of (some (b17,0)) 3 3) (fun H19=>
 ldP H19 (b10,0) fun x20=>
 ldL H19 ((b1,0).1,(b1,0).2+1) fun x22=>
 QcI C x20 x22 [] (.func (.func 74) (List.toArray []) (List.toArray [pv (some (b10,0))]):Value) (fun H24=>
 ldP H24 (b10,0) fun x25=>
 ldL H24 ((b1,0).1,(b1,0).2+2) fun x27=>
 ldP H24 (b10,0) fun x29=>
 Qcf C x25 x27 [] (.func (.func 76) (List.toArray [pv x29]) (List.toArray []):Value) (fun H31=>
 ldP H31 (b10,0) fun x32=>
 ldL H31 ((b1,0).1,(b1,0).2+3) fun x34=>
 ldP H31 (b10,0) fun x36=>
 QcJ C x32 x34 [] (.func (.func 78) (List.toArray [pv x36]) (List.toArray []):Value) (fun H38=>
 ldP H38 (b10,0) fun x39=>
 ldL H38 ((b1,0).1,(b1,0).2+4) fun x41=>
 ldP H38 (b10,0) fun x43=>
 Qdv C x39 x41 [] (.func (.func 80) (List.toArray [pv x43]) (List.toArray []):Value) (fun H45=>
 ldP H45 (b10,0) fun x46=>
 ldL H45 ((b1,0).1,(b1,0).2+5) fun x48=>
 Qc3 C x46 x48 [] (.func (.func 82) (List.toArray []) (List.toArray [pv (some (b10,0))]):Value) (fun H50=>
 ldP H50 (b10,0) fun x51=>
 nck x51 fun p53=>
 QK C (some (p53.1,p53.2+0)) (fun r55 H56=>
 K r55 0 H56) H50) H45) H38) H31) H24) H19) H18) H12) H11) H9) H6)) H2) H
theorem Qow (C p_m K H) (h:Qlu C p_m K H):Qjh C p_m K H:=by
 refine Ye Tryz.func27 rfl Tryz.ntmps27 [(0,.agg (Qa.c p_m).toArray)] (Zo (GL.box (v:=.agg (Qa.c p_m).toArray) (cs:=Qa.c p_m) h trivial rfl rfl rfl ?_))
 intro b1 H2 h
 refine Za (Za (GL.nil (GC.seq (Zo ?_))))
 obtain ⟨x3,v4,h⟩:=h
 refine Zv (OV.loadT rfl rfl rfl v4) (Zc h Qll ?_)
 rintro _ H6 ⟨r5,rfl,h⟩
 refine Za (GL.nil (Zo (Zm (Zi (.bool ((r5:Int) != 0)) (GL.nil (Yd h (fun u7 h=>?_) fun u7 h=>?_))))))
 refine Zo (Zm (Za (Za (GL.nil ?_))))
 exact Y2 I3 ⟨[],r5,rfl,h⟩
 refine GC.skip (Zo (Zv (OV.build (vs:=[]) (v:=.agg (Qdh.c (⟨QbR.zero⟩:Qdh)).toArray) rfl (fun _=>by kernel_rfl)) (GL.boxB (T:=147) (e:=5) (v:=.agg (Qdh.c (⟨QbR.zero⟩:Qdh)).toArray) h trivial rfl rfl rfl ?_)))
 intro b8 H9 h
 refine GL.alloc (cs:=[pv none]) h trivial rfl rfl rfl ?_
 intro b10 H11 h
 refine GL.store (p:=(b10,0)) (v:=pv (some (b8,0))) h trivial rfl rfl rfl rfl ?_
 intro H12 h
 refine GL.nil (Zo (Yl h fun x13 h=>?_))
 refine Zf (Yl h fun x15 h=>?_)
 refine GL.buildSlice (cs:=[sv [109,111,100,117,108,101,32],sv x15,sv [10]]) h trivial rfl (vs:=[(0,sv [109,111,100,117,108,101,32]),(1,sv x15),(2,sv [10])]) rfl ⟨9,fun _=>by kernel_rfl⟩ ?_
 intro b17 H18 h
 refine Zc h QL ?_
 rintro _ H19 ⟨rfl,h⟩
 refine GL.nil (Zo (Yl h fun x20 h=>?_))
 refine Zf (Yl h fun x22 h=>?_)
 refine Zv (OV.makeFunc (vs:=[]) (us:=[pv (some (b10,0))]) rfl rfl) (Zc h Qis ?_)
 rintro _ H24 ⟨rfl,h⟩
 refine GL.nil (Zo (Yl h fun x25 h=>?_))
 refine Zf (Yl h fun x27 h=>?_)
 refine Yl h fun x29 h=>?_
 refine Zv (OV.makeFunc (vs:=[pv x29]) (us:=[]) rfl rfl) (Zc h QhK ?_)
 rintro _ H31 ⟨rfl,h⟩
 refine GL.nil (Zo (Yl h fun x32 h=>?_))
 refine Zf (Yl h fun x34 h=>?_)
 refine Yl h fun x36 h=>?_
 refine Zv (OV.makeFunc (vs:=[pv x36]) (us:=[]) rfl rfl) (Zc h Qit ?_)
 rintro _ H38 ⟨rfl,h⟩
 refine GL.nil (Zo (Yl h fun x39 h=>?_))
 refine Zf (Yl h fun x41 h=>?_)
 refine Yl h fun x43 h=>?_
 refine Zv (OV.makeFunc (vs:=[pv x43]) (us:=[]) rfl rfl) (Zc h Qjx ?_)
 rintro _ H45 ⟨rfl,h⟩
 refine GL.nil (Zo (Yl h fun x46 h=>?_))
 refine Zf (Yl h fun x48 h=>?_)
 refine Zv (OV.makeFunc (vs:=[]) (us:=[pv (some (b10,0))]) rfl rfl) (Zc h Qi2 ?_)
 rintro _ H50 ⟨rfl,h⟩
 refine GL.nil (Zo (Yl h fun x51 h=>?_))
 obtain ⟨p53,hp54,h⟩:=h
 refine Zv (OV.nilCheck (q:=x51) rfl hp54) (Zf (Zc h QdJ ?_))
 rintro _ H56 ⟨r55,rfl,h⟩
 refine Za (Za (GL.nil ?_))
 exact Y2 I3 ⟨r55,0,rfl,h⟩
end
end Sx
end
