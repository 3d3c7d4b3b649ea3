/-
  Texts of this family, one behind the other: Sh5, Sh, FmtI, CntJ, ValQ, ValU, ValP1, ValP2, ValP3, ValP4, ValP5, ValR, ValW, ShowQ, BldB, ShowP, TreeI, TreeV, TreeE, TreeT1, TreeN, TreeG, TreeC1, TreeC2, TreeC3, TreeW1, TreeW2, TreeW3, TreeB, TreeS, TreeP, TreeQ, TreeZ, ModI, ModV, Mod1.
-/
import Derived.Test.YtmeefnmaphmpkaaGreatDoorBN2
import Derived.Shelf.Strconv.Itoa4
import Derived.Shelf.Strings.Search3
import Derived.Shelf.Vars
import Derived.Lib.ItoaNum
import Derived.Lib.ItoaLen
import Derived.Lib.IndexMore
noncomputable section
set_option linter.unusedVariables false
set_option linter.unusedSimpArgs false
set_option maxRecDepth 10000
namespace Sx
section
set_option maxRecDepth 100000
open Go Go.Proofs
def QfU (C:Ctx) (p_t:Qd) (K:Int→Heap→Prop) (H:Heap):Prop:=
 nw (Qd.c p_t) (fun b1 H2=>
 ldL H2 ((b1,0).1,(b1,0).2+1) fun x3=>
 QS C x3 (.func (.func 186) (List.toArray []) (List.toArray []):Value) (fun r5 H6=>
 K (w .i64 (1+r5)) H6) H2) H
theorem QiK (C p_t K H) (h:QfU C p_t K H):QaT C p_t K H:=by
 refine Ye Tryz.func186 rfl Tryz.ntmps186 [(0,.agg (Qd.c p_t).toArray)] (Zo (GL.box (v:=.agg (Qd.c p_t).toArray) (cs:=Qd.c p_t) h trivial rfl rfl rfl ?_))
 intro b1 H2 h
 refine Za (GL.nil (Zo (Zf (Yl h fun x3 h=>?_))))
 refine Zc h QfL ?_
 rintro _ H6 ⟨r5,rfl,h⟩
 refine Zi (.int .i64 (w .i64 (1+r5))) (Za (GL.nil ?_))
 exact Y1 I3 ⟨(w .i64 (1+r5)),rfl,h⟩
def Qau (C:Ctx) (p_s:Sl) (p_f:Value) (K:Int→Heap→Prop) (H:Heap):Prop:=
 lp (α:=Int) 0 H (fun x1 J2 H3=>
 ift (decide ((x1:Int) < (Sl.len p_s:Int)))
 (ixa p_s x1 fun p5=>
 ldT H3 Qb.c (p5.1,p5.2+(x1:Int).toNat*6) fun x10=>
 callU Tryz.prog C p_f [.agg (Qb.c x10).toArray] H3 (fun v H13=>∃ (r12:Bool),v=.bool r12∧
 ift r12
 (K x1 H13)
 (J2 (w .i64 (x1+1)) H13)))
 (K (-1) H3))
theorem QbD (C p_s p_f K H) (h:Qau C p_s p_f K H):Qax C p_s p_f K H:=by
 refine Ye Tryz.func188 rfl Tryz.ntmps188 [(0,slv p_s),(1,p_f)] (Zo (Za (GL.nil (GC.seq (Zo (Zm (Zq (Zm (GL.nil (GC.block (Yp h (fun x1=>[(8,.int .i64 x1),(0,slv p_s),(1,p_f),(7,.int .i64 (Sl.len p_s:Int))]) ?_)))))))))))
 intro x1 H3 J2 h
 refine Zo (Zi (.bool (decide ((x1:Int) < (Sl.len p_s:Int)))) (GL.nil (GC.seq (Yd h (fun u4 h=>?_) fun u4 h=>?_))))
 refine GC.skip (GC.seq (GC.block (Zo (Zm (Za (GL.nil (Zo (Zm (Zm (Zm (Yx h fun p5 h=>?_)))))))))))
 obtain ⟨x10,v11,h⟩:=h
 refine Zv (OV.loadT rfl rfl rfl v11) (GL.callU (xv:=p_f) (vs:=[.agg (Qb.c x10).toArray]) h trivial rfl rfl rfl ?_)
 rintro _ H13 ⟨r12,rfl,h⟩
 refine GL.nil (Yd h (fun u14 h=>?_) fun u14 h=>?_)
 refine Zo (Zm (Za (GL.nil ?_)))
 exact Y1 I3 ⟨x1,rfl,h⟩
 refine GC.skip_to I3 (GC.region (Zi (.int .i64 (w .i64 (x1+1))) (Zm ?_)))
 exact Yj I3 (w .i64 (x1+1)) h
 refine GC.exit_to I3 (Zo (Za (GL.nil ?_)))
 exact Y1 I3 ⟨(-1),rfl,h⟩
def Qa2 (C:Ctx) (p_s:Sl) (p_f:Value) (K:Bool→Heap→Prop) (H:Heap):Prop:=
 Qbm C p_s p_f (fun r1 H2=>
 K (decide ((r1:Int) ≥ 0)) H2) H
theorem QcQ (C p_s p_f K H) (h:Qa2 C p_s p_f K H):Qa4 C p_s p_f K H:=by
 refine Ye Tryz.func189 rfl Tryz.ntmps189 [(0,slv p_s),(1,p_f)] (Zo (Za (GL.nil (Zo (Zm (Zm (Zc h Qdt ?_)))))))
 rintro _ H2 ⟨r1,rfl,h⟩
 refine Zi (.bool (decide ((r1:Int) ≥ 0))) (Za (GL.nil ?_))
 exact Y1 I3 ⟨(decide ((r1:Int) ≥ 0)),rfl,h⟩
def Qd8 (C:Ctx) (p_x:Str) (v0:Nat×Nat) (K:Bool→Heap→Prop) (H:Heap):Prop:=
 ldV H v0 fun x1=>
 callU Tryz.prog C x1 [sv p_x] H (fun v H4=>∃ (r3:Bool),v=.bool r3∧
 K (!r3) H4)
theorem Qhy (C p_x v0 K H) (h:Qd8 C p_x v0 K H):Qel C p_x v0 K H:=by
 refine Ye Tryz.func190 rfl Tryz.ntmps190 [(0,sv p_x),(1,pv (some v0))] (Zo (Za (GL.nil (Zo (Yl h fun x1 h=>?_)))))
 refine Zm (GL.callU (xv:=x1) (vs:=[sv p_x]) h trivial rfl rfl rfl ?_)
 rintro _ H4 ⟨r3,rfl,h⟩
 refine Zv (OV.not rfl) (Za (GL.nil ?_))
 exact Y1 I3 ⟨(!r3),rfl,h⟩
def Qfd (C:Ctx) (p_x:Qc) (v0:Nat×Nat) (K:Bool→Heap→Prop) (H:Heap):Prop:=
 nw (Qc.c p_x) (fun b1 H2=>
 ldV H2 v0 fun x3=>
 ldT H2 Qc.c (b1,0) fun x5=>
 callU Tryz.prog C x3 [.agg (Qc.c x5).toArray] H2 (fun v H8=>∃ (r7:Bool),v=.bool r7∧
 K (!r7) H8)) H
theorem QeX (C p_x v0 K H) (h:Qfd C p_x v0 K H):Qft C p_x v0 K H:=by
 refine Ye Tryz.func191 rfl Tryz.ntmps191 [(0,.agg (Qc.c p_x).toArray),(1,pv (some v0))] (Zo (GL.box (v:=.agg (Qc.c p_x).toArray) (cs:=Qc.c p_x) h trivial rfl rfl rfl ?_))
 intro b1 H2 h
 refine Za (GL.nil (Zo (Yl h fun x3 h=>?_)))
 obtain ⟨x5,hr6,h⟩:=h
 refine Zv (OV.loadT rfl rfl rfl hr6) (GL.callU (xv:=x3) (vs:=[.agg (Qc.c x5).toArray]) h trivial rfl rfl rfl ?_)
 rintro _ H8 ⟨r7,rfl,h⟩
 refine Zv (OV.not rfl) (Za (GL.nil ?_))
 exact Y1 I3 ⟨(!r7),rfl,h⟩
def QaC (C:Ctx) (p_s:Sl) (p_f:Value) (K:Int→Heap→Prop) (H:Heap):Prop:=
 lp (α:=Int) 0 H (fun x1 J2 H3=>
 ift (decide ((x1:Int) < (Sl.len p_s:Int)))
 (ixa p_s x1 fun p5=>
 ldT H3 Qg.c (p5.1,p5.2+(x1:Int).toNat*6) fun x10=>
 callU Tryz.prog C p_f [.agg (Qg.c x10).toArray] H3 (fun v H13=>∃ (r12:Bool),v=.bool r12∧
 ift r12
 (K x1 H13)
 (J2 (w .i64 (x1+1)) H13)))
 (K (-1) H3))
theorem Qb5 (C p_s p_f K H) (h:QaC C p_s p_f K H):QaJ C p_s p_f K H:=by
 refine Ye Tryz.func192 rfl Tryz.ntmps192 [(0,slv p_s),(1,p_f)] (Zo (Za (GL.nil (GC.seq (Zo (Zm (Zq (Zm (GL.nil (GC.block (Yp h (fun x1=>[(8,.int .i64 x1),(0,slv p_s),(1,p_f),(7,.int .i64 (Sl.len p_s:Int))]) ?_)))))))))))
 intro x1 H3 J2 h
 refine Zo (Zi (.bool (decide ((x1:Int) < (Sl.len p_s:Int)))) (GL.nil (GC.seq (Yd h (fun u4 h=>?_) fun u4 h=>?_))))
 refine GC.skip (GC.seq (GC.block (Zo (Zm (Za (GL.nil (Zo (Zm (Zm (Zm (Yx h fun p5 h=>?_)))))))))))
 obtain ⟨x10,v11,h⟩:=h
 refine Zv (OV.loadT rfl rfl rfl v11) (GL.callU (xv:=p_f) (vs:=[.agg (Qg.c x10).toArray]) h trivial rfl rfl rfl ?_)
 rintro _ H13 ⟨r12,rfl,h⟩
 refine GL.nil (Yd h (fun u14 h=>?_) fun u14 h=>?_)
 refine Zo (Zm (Za (GL.nil ?_)))
 exact Y1 I3 ⟨x1,rfl,h⟩
 refine GC.skip_to I3 (GC.region (Zi (.int .i64 (w .i64 (x1+1))) (Zm ?_)))
 exact Yj I3 (w .i64 (x1+1)) h
 refine GC.exit_to I3 (Zo (Za (GL.nil ?_)))
 exact Y1 I3 ⟨(-1),rfl,h⟩
def QeH (C:Ctx) (p_x:Qf) (v0:Nat×Nat) (K:Bool→Heap→Prop) (H:Heap):Prop:=
 nw (Qf.c p_x) (fun b1 H2=>
 ldV H2 v0 fun x3=>
 ldT H2 Qf.c (b1,0) fun x5=>
 callU Tryz.prog C x3 [.agg (Qf.c x5).toArray] H2 (fun v H8=>∃ (r7:Bool),v=.bool r7∧
 K (!r7) H8)) H
theorem Qey (C p_x v0 K H) (h:QeH C p_x v0 K H):Qe2 C p_x v0 K H:=by
 refine Ye Tryz.func193 rfl Tryz.ntmps193 [(0,.agg (Qf.c p_x).toArray),(1,pv (some v0))] (Zo (GL.box (v:=.agg (Qf.c p_x).toArray) (cs:=Qf.c p_x) h trivial rfl rfl rfl ?_))
 intro b1 H2 h
 refine Za (GL.nil (Zo (Yl h fun x3 h=>?_)))
 obtain ⟨x5,hr6,h⟩:=h
 refine Zv (OV.loadT rfl rfl rfl hr6) (GL.callU (xv:=x3) (vs:=[.agg (Qf.c x5).toArray]) h trivial rfl rfl rfl ?_)
 rintro _ H8 ⟨r7,rfl,h⟩
 refine Zv (OV.not rfl) (Za (GL.nil ?_))
 exact Y1 I3 ⟨(!r7),rfl,h⟩
def Qd7 (C:Ctx) (p_l:Sl) (p_is:Value) (K:Bool→Heap→Prop) (H:Heap):Prop:=
 (Value.cells p_is = #[p_is])∧nw ([p_is]) (fun b1 H2=>
 QG C p_l (.func (.func 223) (List.toArray []) (List.toArray [pv (some (b1,0))]):Value) (fun r4 H5=>
 K (!r4) H5) H2) H
theorem Qhx (C p_l p_is K H) (h:Qd7 C p_l p_is K H):QQ C p_l p_is K H:=by
 refine Ye Tryz.func194 rfl Tryz.ntmps194 [(0,slv p_l),(1,p_is)] (Zo ?_)
 obtain ⟨u3,h⟩:=h
 refine GL.box (v:=p_is) (cs:=[p_is]) h trivial rfl rfl u3 ?_
 intro b1 H2 h
 refine Za (GL.nil (Zo (Zm (Zv (OV.makeFunc (vs:=[]) (us:=[pv (some (b1,0))]) rfl rfl) (Zc h QaK ?_)))))
 rintro _ H5 ⟨r4,rfl,h⟩
 refine Zv (OV.not rfl) (Za (GL.nil ?_))
 exact Y1 I3 ⟨(!r4),rfl,h⟩
def QaW (C:Ctx) (p_s:Sl) (p_f:Value) (K:Int→Heap→Prop) (H:Heap):Prop:=
 lp (α:=Int) 0 H (fun x1 J2 H3=>
 ift (decide ((x1:Int) < (Sl.len p_s:Int)))
 (ixa p_s x1 fun p5=>
 ldT H3 Qi.c (p5.1,p5.2+(x1:Int).toNat*6) fun x10=>
 callU Tryz.prog C p_f [.agg (Qi.c x10).toArray] H3 (fun v H13=>∃ (r12:Bool),v=.bool r12∧
 ift r12
 (K x1 H13)
 (J2 (w .i64 (x1+1)) H13)))
 (K (-1) H3))
theorem QcJ (C p_s p_f K H) (h:QaW C p_s p_f K H):Qa0 C p_s p_f K H:=by
 refine Ye Tryz.func195 rfl Tryz.ntmps195 [(0,slv p_s),(1,p_f)] (Zo (Za (GL.nil (GC.seq (Zo (Zm (Zq (Zm (GL.nil (GC.block (Yp h (fun x1=>[(8,.int .i64 x1),(0,slv p_s),(1,p_f),(7,.int .i64 (Sl.len p_s:Int))]) ?_)))))))))))
 intro x1 H3 J2 h
 refine Zo (Zi (.bool (decide ((x1:Int) < (Sl.len p_s:Int)))) (GL.nil (GC.seq (Yd h (fun u4 h=>?_) fun u4 h=>?_))))
 refine GC.skip (GC.seq (GC.block (Zo (Zm (Za (GL.nil (Zo (Zm (Zm (Zm (Yx h fun p5 h=>?_)))))))))))
 obtain ⟨x10,v11,h⟩:=h
 refine Zv (OV.loadT rfl rfl rfl v11) (GL.callU (xv:=p_f) (vs:=[.agg (Qi.c x10).toArray]) h trivial rfl rfl rfl ?_)
 rintro _ H13 ⟨r12,rfl,h⟩
 refine GL.nil (Yd h (fun u14 h=>?_) fun u14 h=>?_)
 refine Zo (Zm (Za (GL.nil ?_)))
 exact Y1 I3 ⟨x1,rfl,h⟩
 refine GC.skip_to I3 (GC.region (Zi (.int .i64 (w .i64 (x1+1))) (Zm ?_)))
 exact Yj I3 (w .i64 (x1+1)) h
 refine GC.exit_to I3 (Zo (Za (GL.nil ?_)))
 exact Y1 I3 ⟨(-1),rfl,h⟩
def QaM (C:Ctx) (p_s:Sl) (p_f:Value) (K:Bool→Heap→Prop) (H:Heap):Prop:=
 QaZ C p_s p_f (fun r1 H2=>
 K (decide ((r1:Int) ≥ 0)) H2) H
theorem Qch (C p_s p_f K H) (h:QaM C p_s p_f K H):QaO C p_s p_f K H:=by
 refine Ye Tryz.func196 rfl Tryz.ntmps196 [(0,slv p_s),(1,p_f)] (Zo (Za (GL.nil (Zo (Zm (Zm (Zc h QcL ?_)))))))
 rintro _ H2 ⟨r1,rfl,h⟩
 refine Zi (.bool (decide ((r1:Int) ≥ 0))) (Za (GL.nil ?_))
 exact Y1 I3 ⟨(decide ((r1:Int) ≥ 0)),rfl,h⟩
def QgK (C:Ctx) (p_x:Qh) (v0:Nat×Nat) (K:Bool→Heap→Prop) (H:Heap):Prop:=
 nw (Qh.c p_x) (fun b1 H2=>
 ldV H2 v0 fun x3=>
 ldT H2 Qh.c (b1,0) fun x5=>
 callU Tryz.prog C x3 [.agg (Qh.c x5).toArray] H2 (fun v H8=>∃ (r7:Bool),v=.bool r7∧
 K (!r7) H8)) H
theorem Qgx (C p_x v0 K H) (h:QgK C p_x v0 K H):QgR C p_x v0 K H:=by
 refine Ye Tryz.func197 rfl Tryz.ntmps197 [(0,.agg (Qh.c p_x).toArray),(1,pv (some v0))] (Zo (GL.box (v:=.agg (Qh.c p_x).toArray) (cs:=Qh.c p_x) h trivial rfl rfl rfl ?_))
 intro b1 H2 h
 refine Za (GL.nil (Zo (Yl h fun x3 h=>?_)))
 obtain ⟨x5,hr6,h⟩:=h
 refine Zv (OV.loadT rfl rfl rfl hr6) (GL.callU (xv:=x3) (vs:=[.agg (Qh.c x5).toArray]) h trivial rfl rfl rfl ?_)
 rintro _ H8 ⟨r7,rfl,h⟩
 refine Zv (OV.not rfl) (Za (GL.nil ?_))
 exact Y1 I3 ⟨(!r7),rfl,h⟩
def Qi1 (C:Ctx) (p_e:Qh) (p_pattern:Bool) (K:Bool→Heap→Prop) (H:Heap):Prop:=
 nw (Qh.c p_e) (fun b1 H2=>
 nw ([.bool p_pattern]) (fun b3 H4=>
 ldL H4 ((b1,0).1,(b1,0).2+8) fun x5=>
 jn (α:=Bool) (fun x8 H9=>
 jn (α:=Bool) (fun b102 H110=>
 jn (α:=Bool) (fun b111 H119=>
 K b111 H119)
 (fun J112=>ift b102
 (ldL H110 ((b1,0).1,(b1,0).2+8) fun x115=>
 QB C x115 (.func (.func 228) (List.toArray []) (List.toArray [pv (some (b3,0))]):Value) (fun r117 H118=>
 J112 r117 H118) H110)
 (J112 false H110)))
 (fun J103=>ift x8
 (ldT H9 Qm.c ((b1,0).1,(b1,0).2+4) fun x106=>
 Qc2 C x106 (fun r108 H109=>
 J103 r108 H109) H9)
 (J103 false H9)))
 (fun J7=>ldI H4 .u8 ((b1,0).1,(b1,0).2+0) fun x11=>
 ift ((x11:Int) == 1)
 (ldI H4 .u8 (((b1,0).1,(b1,0).2+4).1,((b1,0).1,(b1,0).2+4).2+0) fun x14=>
 jn (α:=Bool) (fun b17 H25=>
 jn (α:=Bool) (fun b27 H33=>
 K b27 H33)
 (fun J28=>ift (b17 && (((Sl.len x5:Int):Int) == 0))
 (ldS H25 ((b1,0).1,(b1,0).2+3) fun x31=>
 J28 (x31 == ([]:Str)) H25)
 (J28 false H25)))
 (fun J18=>ift ((decide ((x14:Int) ≥ 1)) && (decide ((x14:Int)≤4)))
 (ldT H4 Qm.c ((b1,0).1,(b1,0).2+4) fun x21=>
 QbL C x21 (fun r23 H24=>
 J18 ((r23:Int) == 0) H24) H4)
 (J18 false H4)))
 (ift ((x11:Int) == 2)
 (ldS H4 ((b1,0).1,(b1,0).2+3) fun x35=>
 Qdr C x35 (fun r37 H38=>
 J7 (r37 && (((Sl.len x5:Int):Int) == 0)) H38) H4)
 (ift ((x11:Int) == 3)
 (ldB H4 (b3,0) fun x41=>
 jn (α:=Bool) (fun b43 H49=>
 J7 (b43 && (((Sl.len x5:Int):Int) == 0)) H49)
 (fun J44=>ift x41
 (ldS H4 ((b1,0).1,(b1,0).2+3) fun x47=>
 J44 (x47 == ([]:Str)) H4)
 (J44 false H4)))
 (ift ((x11:Int) == 4)
 (ldS H4 ((b1,0).1,(b1,0).2+3) fun x52=>
 J7 (((x52 == ([]:Str)) && (((Sl.len x5:Int):Int) != 1)) && (decide (((Sl.len x5:Int):Int)≤16))) H4)
 (ift ((x11:Int) == 5)
 (ldS H4 ((b1,0).1,(b1,0).2+3) fun x57=>
 QdK C x57 (fun r59 H60=>
 J7 (r59 && (decide (((Sl.len x5:Int):Int)≤8))) H60) H4)
 (ift ((x11:Int) == 6)
 (dr H4 fun Hs63=>
 ldS Hs63 ((b1,0).1,(b1,0).2+3) fun x65=>
 QgU C (fun r68 H69=>
 Heap.le Hs63 H69∧
 lkM sv (fun x:Int=>(.int .i64 x:Value)) 0 r68 x65 (fun x71 is72=>
 Heap.le Hs63 H69∧
 ldB H69 (b3,0) fun x74=>
 J7 (((!x74) && (decide ((x71:Int) > 0))) && ((x71:Int) == (Sl.len x5:Int))) H69) H69) H4)
 (ift ((x11:Int) == 7)
 (ldB H4 (b3,0) fun x79=>
 jn (α:=Bool) (fun b81 H89=>
 J7 (b81 && (((Sl.len x5:Int):Int) == 1)) H89)
 (fun J82=>ift (!x79)
 (ldS H4 ((b1,0).1,(b1,0).2+3) fun x85=>
 QaE C x85 (fun r87 H88=>
 J82 r87 H88) H4)
 (J82 false H4)))
 (ift ((x11:Int) == 8)
 (ldB H4 (b3,0) fun x92=>
 jn (α:=Bool) (fun b94 H100=>
 J7 (b94 && (((Sl.len x5:Int):Int) == 3)) H100)
 (fun J95=>ift (!x92)
 (ldS H4 ((b1,0).1,(b1,0).2+3) fun x98=>
 J95 (x98 == ([]:Str)) H4)
 (J95 false H4)))
 (J7 false H4)))))))))) H2) H
theorem QlU (C p_e p_pattern K H) (h:Qi1 C p_e p_pattern K H):QbK C p_e p_pattern K H:=by
 refine Ye Tryz.func198 rfl Tryz.ntmps198 [(0,.agg (Qh.c p_e).toArray),(1,.bool p_pattern)] (Zo (GL.box (v:=.agg (Qh.c p_e).toArray) (cs:=Qh.c p_e) h trivial rfl rfl rfl ?_))
 intro b1 H2 h
 refine GL.box (v:=.bool p_pattern) (cs:=[.bool p_pattern]) h trivial rfl rfl rfl ?_
 intro b3 H4 h
 refine Za (GL.nil (Zo (Zf (Yl h fun x5 h=>?_))))
 refine Zq (Za (GL.nil (Zo (Za (GL.nil ?_)))))
 obtain ⟨J7,h,hR10⟩:=h
 refine GC.join (α:=Bool) J7 (fun x8=>[(6,.bool x8),(2,pv (some (b1,0))),(3,pv (some (b3,0)))]) ?_ ?_
 refine Zo (Zf (Yl h fun x11 h=>?_))
 refine GL.nil (GC.block (Zo (Zi (.bool ((x11:Int) == 1)) (Za (GL.nil (Yd h (fun u13 h=>?_) fun u13 h=>?_))))))
 refine Zo (Zf (Zf (Yl h fun x14 h=>?_)))
 refine Za (GL.nil (Zo (Zm (Zi (.bool (decide ((x14:Int) ≥ 1))) (Zm (GL.cut0 3 [(24,.bool ((decide ((x14:Int) ≥ 1)) && (decide ((x14:Int)≤4)))),(2,pv (some (b1,0))),(5,.int .i64 (Sl.len x5:Int))] ?_ ?_))))))
 rcases Zb (decide ((x14:Int) ≥ 1)) with u16 | u16
 refine Zu u16 Ym (Zu u16 (OV.ibin (v:=.bool (decide ((x14:Int)≤4))) rfl rfl rfl) (Zt u16 ?_))
 exact GL.jump0 I3 () rfl ⟨(by rw [u16]; rfl),rfl,rfl,trivial⟩
 refine Zk u16 (Zk u16 (Zn u16 ?_))
 exact GL.jump0 I3 () rfl ⟨(by rw [u16]; rfl),rfl,rfl,trivial⟩
 refine Zm ?_
 obtain ⟨J18,h,hR19⟩:=h
 refine GL.cut (α:=Bool) 5 J18 (fun b17=>[(30,.bool b17),(2,pv (some (b1,0))),(5,.int .i64 (Sl.len x5:Int))]) ?_ ?_
 rcases h.em with ⟨u20,h⟩ | ⟨u20,h⟩
 refine Zu u20 Yf ?_
 obtain ⟨x21,v22,h⟩:=h
 refine Zu u20 (OV.loadT rfl rfl rfl v22) (GL.call h (Yt u20) rfl QkK (vs:=[.agg (Qm.c x21).toArray]) rfl ?_)
 rintro _ H24 ⟨r23,rfl,h⟩
 refine Zu u20 (OV.ibin (v:=.bool ((r23:Int) == 0)) rfl rfl rfl) (Zt u20 ?_)
 exact Yj I3 ((r23:Int) == 0) h
 refine Zk u20 (Zk u20 (Zk u20 (Zk u20 (Zn u20 ?_))))
 exact Yj I3 false h
 intro b17 H25 h
 replace h:=hR19 b17 H25 h
 refine Zm (GL.cut0 3 [(34,.bool (b17 && (((Sl.len x5:Int):Int) == 0))),(2,pv (some (b1,0)))] ?_ ?_)
 rcases Bool.eq_false_or_eq_true b17 with u26 | u26
 refine Zu u26 Ym (Zu u26 (OV.ibin (v:=.bool (((Sl.len x5:Int):Int) == 0)) rfl rfl rfl) (Zt u26 ?_))
 exact GL.jump0 I3 () rfl ⟨(by rw [u26]; rfl),rfl,trivial⟩
 refine Zk u26 (Zk u26 (Zn u26 ?_))
 exact GL.jump0 I3 () rfl ⟨(by rw [u26]; rfl),rfl,trivial⟩
 refine Zm ?_
 obtain ⟨J28,h,hR29⟩:=h
 refine GL.cut (α:=Bool) 4 J28 (fun b27=>[(39,.bool b27)]) ?_ ?_
 rcases h.em with ⟨u30,h⟩ | ⟨u30,h⟩
 refine Zu u30 Yf ?_
 obtain ⟨x31,v32,h⟩:=h
 refine Zu u30 (Yo v32) (Zu u30 (OV.sbin (a:=x31) (b:=([]:Str)) (v:=.bool (x31 == ([]:Str))) rfl rfl rfl) (Zt u30 ?_))
 exact Yj I3 (x31 == ([]:Str)) h
 refine Zk u30 (Zk u30 (Zk u30 (Zn u30 ?_)))
 exact Yj I3 false h
 intro b27 H33 h
 replace h:=hR29 b27 H33 h
 refine Za (GL.nil ?_)
 exact Y1 I3 ⟨b27,rfl,h⟩
 refine Zo (Zi (.bool ((x11:Int) == 2)) (Za (GL.nil (Yd h (fun u34 h=>?_) fun u34 h=>?_))))
 refine GC.region (Zf (Yl h fun x35 h=>?_))
 refine Zc h Qgl ?_
 rintro _ H38 ⟨r37,rfl,h⟩
 refine Zm (GL.cut0 3 [(48,.bool (r37 && (((Sl.len x5:Int):Int) == 0))),(2,pv (some (b1,0))),(3,pv (some (b3,0)))] ?_ ?_)
 rcases Bool.eq_false_or_eq_true r37 with u39 | u39
 refine Zu u39 Ym (Zu u39 (OV.ibin (v:=.bool (((Sl.len x5:Int):Int) == 0)) rfl rfl rfl) (Zt u39 ?_))
 exact GL.jump0 I3 () rfl ⟨(by rw [u39]; rfl),rfl,rfl,trivial⟩
 refine Zk u39 (Zk u39 (Zn u39 ?_))
 exact GL.jump0 I3 () rfl ⟨(by rw [u39]; rfl),rfl,rfl,trivial⟩
 refine Za ?_
 exact Yj I3 (r37 && (((Sl.len x5:Int):Int) == 0)) h
 refine Zo (Zi (.bool ((x11:Int) == 3)) (Za (GL.nil (Yd h (fun u40 h=>?_) fun u40 h=>?_))))
 refine GC.region (Yl h fun x41 h=>?_)
 refine Zm ?_
 obtain ⟨J44,h,hR45⟩:=h
 refine GL.cut (α:=Bool) 4 J44 (fun b43=>[(56,.bool b43),(2,pv (some (b1,0))),(3,pv (some (b3,0))),(5,.int .i64 (Sl.len x5:Int))]) ?_ ?_
 rcases h.em with ⟨u46,h⟩ | ⟨u46,h⟩
 refine Zu u46 Yf ?_
 obtain ⟨x47,v48,h⟩:=h
 refine Zu u46 (Yo v48) (Zu u46 (OV.sbin (a:=x47) (b:=([]:Str)) (v:=.bool (x47 == ([]:Str))) rfl rfl rfl) (Zt u46 ?_))
 exact Yj I3 (x47 == ([]:Str)) h
 refine Zk u46 (Zk u46 (Zk u46 (Zn u46 ?_)))
 exact Yj I3 false h
 intro b43 H49 h
 replace h:=hR45 b43 H49 h
 refine Zm (GL.cut0 3 [(60,.bool (b43 && (((Sl.len x5:Int):Int) == 0))),(2,pv (some (b1,0))),(3,pv (some (b3,0)))] ?_ ?_)
 rcases Bool.eq_false_or_eq_true b43 with u50 | u50
 refine Zu u50 Ym (Zu u50 (OV.ibin (v:=.bool (((Sl.len x5:Int):Int) == 0)) rfl rfl rfl) (Zt u50 ?_))
 exact GL.jump0 I3 () rfl ⟨(by rw [u50]; rfl),rfl,rfl,trivial⟩
 refine Zk u50 (Zk u50 (Zn u50 ?_))
 exact GL.jump0 I3 () rfl ⟨(by rw [u50]; rfl),rfl,rfl,trivial⟩
 refine Za ?_
 exact Yj I3 (b43 && (((Sl.len x5:Int):Int) == 0)) h
 refine Zo (Zi (.bool ((x11:Int) == 4)) (Za (GL.nil (Yd h (fun u51 h=>?_) fun u51 h=>?_))))
 refine GC.region (Zf (Yl h fun x52 h=>?_))
 refine Zv (OV.sbin (a:=x52) (b:=([]:Str)) (v:=.bool (x52 == ([]:Str))) rfl rfl rfl) (Zm (GL.cut0 3 [(69,.bool ((x52 == ([]:Str)) && (((Sl.len x5:Int):Int) != 1))),(2,pv (some (b1,0))),(3,pv (some (b3,0))),(5,.int .i64 (Sl.len x5:Int))] ?_ ?_))
 rcases Zb (x52 == ([]:Str)) with u54 | u54
 refine Zu u54 Ym (Zu u54 (OV.ibin (v:=.bool (((Sl.len x5:Int):Int) != 1)) rfl rfl rfl) (Zt u54 ?_))
 exact GL.jump0 I3 () rfl ⟨(by rw [u54]; rfl),rfl,rfl,rfl,trivial⟩
 refine Zk u54 (Zk u54 (Zn u54 ?_))
 exact GL.jump0 I3 () rfl ⟨(by rw [u54]; rfl),rfl,rfl,rfl,trivial⟩
 refine Zm (GL.cut0 3 [(73,.bool (((x52 == ([]:Str)) && (((Sl.len x5:Int):Int) != 1)) && (decide (((Sl.len x5:Int):Int)≤16)))),(2,pv (some (b1,0))),(3,pv (some (b3,0)))] ?_ ?_)
 rcases Zb ((x52 == ([]:Str)) && (((Sl.len x5:Int):Int) != 1)) with u55 | u55
 refine Zu u55 Ym (Zu u55 (OV.ibin (v:=.bool (decide (((Sl.len x5:Int):Int)≤16))) rfl rfl rfl) (Zt u55 ?_))
 exact GL.jump0 I3 () rfl ⟨(by rw [u55]; rfl),rfl,rfl,trivial⟩
 refine Zk u55 (Zk u55 (Zn u55 ?_))
 exact GL.jump0 I3 () rfl ⟨(by rw [u55]; rfl),rfl,rfl,trivial⟩
 refine Za ?_
 exact Yj I3 (((x52 == ([]:Str)) && (((Sl.len x5:Int):Int) != 1)) && (decide (((Sl.len x5:Int):Int)≤16))) h
 refine Zo (Zi (.bool ((x11:Int) == 5)) (Za (GL.nil (Yd h (fun u56 h=>?_) fun u56 h=>?_))))
 refine GC.region (Zf (Yl h fun x57 h=>?_))
 refine Zc h QeM ?_
 rintro _ H60 ⟨r59,rfl,h⟩
 refine Zm (GL.cut0 3 [(82,.bool (r59 && (decide (((Sl.len x5:Int):Int)≤8)))),(2,pv (some (b1,0))),(3,pv (some (b3,0)))] ?_ ?_)
 rcases Bool.eq_false_or_eq_true r59 with u61 | u61
 refine Zu u61 Ym (Zu u61 (OV.ibin (v:=.bool (decide (((Sl.len x5:Int):Int)≤8))) rfl rfl rfl) (Zt u61 ?_))
 exact GL.jump0 I3 () rfl ⟨(by rw [u61]; rfl),rfl,rfl,trivial⟩
 refine Zk u61 (Zk u61 (Zn u61 ?_))
 exact GL.jump0 I3 () rfl ⟨(by rw [u61]; rfl),rfl,rfl,trivial⟩
 refine Za ?_
 exact Yj I3 (r59 && (decide (((Sl.len x5:Int):Int)≤8))) h
 refine Zo (Zi (.bool ((x11:Int) == 6)) (Za (GL.nil (Yd h (fun u62 h=>?_) fun u62 h=>?_))))
 refine GC.seq ?_
 obtain ⟨Hs63,hle64,h⟩:=h
 refine GC.any (Hs:=Hs63) (by kernel_rfl) hle64 (Zp 1 rfl Yf ?_)
 obtain ⟨x65,v66,h⟩:=h
 refine Zp 2 rfl (Yo v66) (GA.eff 0 rfl (by kernel_rfl) (Zc h QlM ?_))
 rintro _ H69 ⟨r68,rfl,h⟩
 obtain ⟨hle67,h⟩:=h
 refine GA.back hle67 (GA.eff 3 rfl (by kernel_rfl) ?_)
 obtain ⟨x71,is72,v73,h⟩:=h
 refine Zv (OV.lookup1 (v:=.int .i64 x71) (ke:=sv) (enc:=(fun x:Int=>(.int .i64 x:Value))) (z:=0) (q:=r68) (k:=x65) (x:=x71) (b:=is72) rfl v73 rfl rfl rfl (kText rfl) rfl) ?_
 obtain ⟨hle70,h⟩:=h
 refine GA.back hle70 (Zp 4 rfl Ya (GA.done (by kernel_rfl) (GL.nil (GC.region (Yl h fun x74 h=>?_)))))
 refine Zv (OV.not rfl) (Zm (GL.cut0 3 [(94,.bool ((!x74) && (decide ((x71:Int) > 0)))),(2,pv (some (b1,0))),(3,pv (some (b3,0))),(5,.int .i64 (Sl.len x5:Int)),(8,.int .i64 x71)] ?_ ?_))
 rcases Zb (!x74) with u76 | u76
 refine Zu u76 Ym (Zu u76 (OV.ibin (v:=.bool (decide ((x71:Int) > 0))) rfl rfl rfl) (Zt u76 ?_))
 exact GL.jump0 I3 () rfl ⟨(by rw [u76]; rfl),rfl,rfl,rfl,rfl,trivial⟩
 refine Zk u76 (Zk u76 (Zn u76 ?_))
 exact GL.jump0 I3 () rfl ⟨(by rw [u76]; rfl),rfl,rfl,rfl,rfl,trivial⟩
 refine Zm (GL.cut0 4 [(99,.bool (((!x74) && (decide ((x71:Int) > 0))) && ((x71:Int) == (Sl.len x5:Int)))),(2,pv (some (b1,0))),(3,pv (some (b3,0)))] ?_ ?_)
 rcases Zb ((!x74) && (decide ((x71:Int) > 0))) with u77 | u77
 refine Zu u77 Ym (Zu u77 Ym (Zu u77 (OV.ibin (v:=.bool ((x71:Int) == (Sl.len x5:Int))) rfl rfl rfl) (Zt u77 ?_)))
 exact GL.jump0 I3 () rfl ⟨(by rw [u77]; rfl),rfl,rfl,trivial⟩
 refine Zk u77 (Zk u77 (Zk u77 (Zn u77 ?_)))
 exact GL.jump0 I3 () rfl ⟨(by rw [u77]; rfl),rfl,rfl,trivial⟩
 refine Za ?_
 exact Yj I3 (((!x74) && (decide ((x71:Int) > 0))) && ((x71:Int) == (Sl.len x5:Int))) h
 refine Zo (Zi (.bool ((x11:Int) == 7)) (Za (GL.nil (Yd h (fun u78 h=>?_) fun u78 h=>?_))))
 refine GC.region (Yl h fun x79 h=>?_)
 refine Zv (OV.not rfl) (Zm ?_)
 obtain ⟨J82,h,hR83⟩:=h
 refine GL.cut (α:=Bool) 4 J82 (fun b81=>[(108,.bool b81),(2,pv (some (b1,0))),(3,pv (some (b3,0))),(5,.int .i64 (Sl.len x5:Int))]) ?_ ?_
 rcases h.em with ⟨u84,h⟩ | ⟨u84,h⟩
 refine Zu u84 Yf ?_
 obtain ⟨x85,v86,h⟩:=h
 refine Zu u84 (Yo v86) (GL.call h (Yt u84) rfl QaQ (vs:=[sv x85]) rfl ?_)
 rintro _ H88 ⟨r87,rfl,h⟩
 refine Zt u84 ?_
 exact Yj I3 r87 h
 refine Zk u84 (Zk u84 (Zk u84 (Zn u84 ?_)))
 exact Yj I3 false h
 intro b81 H89 h
 replace h:=hR83 b81 H89 h
 refine Zm (GL.cut0 3 [(112,.bool (b81 && (((Sl.len x5:Int):Int) == 1))),(2,pv (some (b1,0))),(3,pv (some (b3,0)))] ?_ ?_)
 rcases Bool.eq_false_or_eq_true b81 with u90 | u90
 refine Zu u90 Ym (Zu u90 (OV.ibin (v:=.bool (((Sl.len x5:Int):Int) == 1)) rfl rfl rfl) (Zt u90 ?_))
 exact GL.jump0 I3 () rfl ⟨(by rw [u90]; rfl),rfl,rfl,trivial⟩
 refine Zk u90 (Zk u90 (Zn u90 ?_))
 exact GL.jump0 I3 () rfl ⟨(by rw [u90]; rfl),rfl,rfl,trivial⟩
 refine Za ?_
 exact Yj I3 (b81 && (((Sl.len x5:Int):Int) == 1)) h
 refine Zo (Zi (.bool ((x11:Int) == 8)) (Za (GL.nil (Yd h (fun u91 h=>?_) fun u91 h=>?_))))
 refine GC.region (Yl h fun x92 h=>?_)
 refine Zv (OV.not rfl) (Zm ?_)
 obtain ⟨J95,h,hR96⟩:=h
 refine GL.cut (α:=Bool) 4 J95 (fun b94=>[(121,.bool b94),(2,pv (some (b1,0))),(3,pv (some (b3,0))),(5,.int .i64 (Sl.len x5:Int))]) ?_ ?_
 rcases h.em with ⟨u97,h⟩ | ⟨u97,h⟩
 refine Zu u97 Yf ?_
 obtain ⟨x98,v99,h⟩:=h
 refine Zu u97 (Yo v99) (Zu u97 (OV.sbin (a:=x98) (b:=([]:Str)) (v:=.bool (x98 == ([]:Str))) rfl rfl rfl) (Zt u97 ?_))
 exact Yj I3 (x98 == ([]:Str)) h
 refine Zk u97 (Zk u97 (Zk u97 (Zn u97 ?_)))
 exact Yj I3 false h
 intro b94 H100 h
 replace h:=hR96 b94 H100 h
 refine Zm (GL.cut0 3 [(125,.bool (b94 && (((Sl.len x5:Int):Int) == 3))),(2,pv (some (b1,0))),(3,pv (some (b3,0)))] ?_ ?_)
 rcases Bool.eq_false_or_eq_true b94 with u101 | u101
 refine Zu u101 Ym (Zu u101 (OV.ibin (v:=.bool (((Sl.len x5:Int):Int) == 3)) rfl rfl rfl) (Zt u101 ?_))
 exact GL.jump0 I3 () rfl ⟨(by rw [u101]; rfl),rfl,rfl,trivial⟩
 refine Zk u101 (Zk u101 (Zn u101 ?_))
 exact GL.jump0 I3 () rfl ⟨(by rw [u101]; rfl),rfl,rfl,trivial⟩
 refine Za ?_
 exact Yj I3 (b94 && (((Sl.len x5:Int):Int) == 3)) h
 exact Yk I3 false h
 intro x8 H9 h
 replace h:=hR10 x8 H9 h
 refine Zo (Zm (Zm ?_))
 obtain ⟨J103,h,hR104⟩:=h
 refine GL.cut (α:=Bool) 4 J103 (fun b102=>[(131,.bool b102),(2,pv (some (b1,0))),(3,pv (some (b3,0)))]) ?_ ?_
 rcases h.em with ⟨u105,h⟩ | ⟨u105,h⟩
 refine Zu u105 Yf ?_
 obtain ⟨x106,v107,h⟩:=h
 refine Zu u105 (OV.loadT rfl rfl rfl v107) (GL.call h (Yt u105) rfl Qmn (vs:=[.agg (Qm.c x106).toArray]) rfl ?_)
 rintro _ H109 ⟨r108,rfl,h⟩
 refine Zt u105 ?_
 exact Yj I3 r108 h
 refine Zk u105 (Zk u105 (Zk u105 (Zn u105 ?_)))
 exact Yj I3 false h
 intro b102 H110 h
 replace h:=hR104 b102 H110 h
 refine Zm ?_
 obtain ⟨J112,h,hR113⟩:=h
 refine GL.cut (α:=Bool) 5 J112 (fun b111=>[(137,.bool b111)]) ?_ ?_
 rcases h.em with ⟨u114,h⟩ | ⟨u114,h⟩
 refine Zu u114 Yf ?_
 obtain ⟨x115,v116,h⟩:=h
 refine Zu u114 (Yo v116) (Zu u114 (OV.makeFunc (vs:=[]) (us:=[pv (some (b3,0))]) rfl rfl) (GL.call h (Yt u114) rfl QcO (vs:=[slv x115,.func (.func 228) (List.toArray []) (List.toArray [pv (some (b3,0))])]) rfl ?_))
 rintro _ H118 ⟨r117,rfl,h⟩
 refine Zt u114 ?_
 exact Yj I3 r117 h
 refine Zk u114 (Zk u114 (Zk u114 (Zk u114 (Zn u114 ?_))))
 exact Yj I3 false h
 intro b111 H119 h
 replace h:=hR113 b111 H119 h
 refine Za (GL.nil ?_)
 exact Y1 I3 ⟨b111,rfl,h⟩
def QaR (C:Ctx) (p_s:Sl) (p_f:Value) (K:Int→Heap→Prop) (H:Heap):Prop:=
 lp (α:=Int) 0 H (fun x1 J2 H3=>
 ift (decide ((x1:Int) < (Sl.len p_s:Int)))
 (ixa p_s x1 fun p5=>
 ldT H3 Ql.c (p5.1,p5.2+(x1:Int).toNat*4) fun x10=>
 callU Tryz.prog C p_f [.agg (Ql.c x10).toArray] H3 (fun v H13=>∃ (r12:Bool),v=.bool r12∧
 ift r12
 (K x1 H13)
 (J2 (w .i64 (x1+1)) H13)))
 (K (-1) H3))
theorem Qcm (C p_s p_f K H) (h:QaR C p_s p_f K H):QaS C p_s p_f K H:=by
 refine Ye Tryz.func199 rfl Tryz.ntmps199 [(0,slv p_s),(1,p_f)] (Zo (Za (GL.nil (GC.seq (Zo (Zm (Zq (Zm (GL.nil (GC.block (Yp h (fun x1=>[(8,.int .i64 x1),(0,slv p_s),(1,p_f),(7,.int .i64 (Sl.len p_s:Int))]) ?_)))))))))))
 intro x1 H3 J2 h
 refine Zo (Zi (.bool (decide ((x1:Int) < (Sl.len p_s:Int)))) (GL.nil (GC.seq (Yd h (fun u4 h=>?_) fun u4 h=>?_))))
 refine GC.skip (GC.seq (GC.block (Zo (Zm (Za (GL.nil (Zo (Zm (Zm (Zm (Yx h fun p5 h=>?_)))))))))))
 obtain ⟨x10,v11,h⟩:=h
 refine Zv (OV.loadT rfl rfl rfl v11) (GL.callU (xv:=p_f) (vs:=[.agg (Ql.c x10).toArray]) h trivial rfl rfl rfl ?_)
 rintro _ H13 ⟨r12,rfl,h⟩
 refine GL.nil (Yd h (fun u14 h=>?_) fun u14 h=>?_)
 refine Zo (Zm (Za (GL.nil ?_)))
 exact Y1 I3 ⟨x1,rfl,h⟩
 refine GC.skip_to I3 (GC.region (Zi (.int .i64 (w .i64 (x1+1))) (Zm ?_)))
 exact Yj I3 (w .i64 (x1+1)) h
 refine GC.exit_to I3 (Zo (Za (GL.nil ?_)))
 exact Y1 I3 ⟨(-1),rfl,h⟩
def Qat (C:Ctx) (p_s:Sl) (p_f:Value) (K:Int→Heap→Prop) (H:Heap):Prop:=
 lp (α:=Int) 0 H (fun x1 J2 H3=>
 ift (decide ((x1:Int) < (Sl.len p_s:Int)))
 (ixa p_s x1 fun p5=>
 ldT H3 Qk.c (p5.1,p5.2+(x1:Int).toNat*5) fun x10=>
 callU Tryz.prog C p_f [.agg (Qk.c x10).toArray] H3 (fun v H13=>∃ (r12:Bool),v=.bool r12∧
 ift r12
 (K x1 H13)
 (J2 (w .i64 (x1+1)) H13)))
 (K (-1) H3))
theorem QbC (C p_s p_f K H) (h:Qat C p_s p_f K H):Qaw C p_s p_f K H:=by
 refine Ye Tryz.func200 rfl Tryz.ntmps200 [(0,slv p_s),(1,p_f)] (Zo (Za (GL.nil (GC.seq (Zo (Zm (Zq (Zm (GL.nil (GC.block (Yp h (fun x1=>[(8,.int .i64 x1),(0,slv p_s),(1,p_f),(7,.int .i64 (Sl.len p_s:Int))]) ?_)))))))))))
 intro x1 H3 J2 h
 refine Zo (Zi (.bool (decide ((x1:Int) < (Sl.len p_s:Int)))) (GL.nil (GC.seq (Yd h (fun u4 h=>?_) fun u4 h=>?_))))
 refine GC.skip (GC.seq (GC.block (Zo (Zm (Za (GL.nil (Zo (Zm (Zm (Zm (Yx h fun p5 h=>?_)))))))))))
 obtain ⟨x10,v11,h⟩:=h
 refine Zv (OV.loadT rfl rfl rfl v11) (GL.callU (xv:=p_f) (vs:=[.agg (Qk.c x10).toArray]) h trivial rfl rfl rfl ?_)
 rintro _ H13 ⟨r12,rfl,h⟩
 refine GL.nil (Yd h (fun u14 h=>?_) fun u14 h=>?_)
 refine Zo (Zm (Za (GL.nil ?_)))
 exact Y1 I3 ⟨x1,rfl,h⟩
 refine GC.skip_to I3 (GC.region (Zi (.int .i64 (w .i64 (x1+1))) (Zm ?_)))
 exact Yj I3 (w .i64 (x1+1)) h
 refine GC.exit_to I3 (Zo (Za (GL.nil ?_)))
 exact Y1 I3 ⟨(-1),rfl,h⟩
def QM (C:Ctx) (p_s:Sl) (p_f:Value) (K:Int→Heap→Prop) (H:Heap):Prop:=
 lp (α:=Int) 0 H (fun x1 J2 H3=>
 ift (decide ((x1:Int) < (Sl.len p_s:Int)))
 (ixa p_s x1 fun p5=>
 ldT H3 Qf.c (p5.1,p5.2+(x1:Int).toNat*3) fun x10=>
 callU Tryz.prog C p_f [.agg (Qf.c x10).toArray] H3 (fun v H13=>∃ (r12:Bool),v=.bool r12∧
 ift r12
 (K x1 H13)
 (J2 (w .i64 (x1+1)) H13)))
 (K (-1) H3))
theorem Qag (C p_s p_f K H) (h:QM C p_s p_f K H):Qao C p_s p_f K H:=by
 refine Ye Tryz.func201 rfl Tryz.ntmps201 [(0,slv p_s),(1,p_f)] (Zo (Za (GL.nil (GC.seq (Zo (Zm (Zq (Zm (GL.nil (GC.block (Yp h (fun x1=>[(8,.int .i64 x1),(0,slv p_s),(1,p_f),(7,.int .i64 (Sl.len p_s:Int))]) ?_)))))))))))
 intro x1 H3 J2 h
 refine Zo (Zi (.bool (decide ((x1:Int) < (Sl.len p_s:Int)))) (GL.nil (GC.seq (Yd h (fun u4 h=>?_) fun u4 h=>?_))))
 refine GC.skip (GC.seq (GC.block (Zo (Zm (Za (GL.nil (Zo (Zm (Zm (Zm (Yx h fun p5 h=>?_)))))))))))
 obtain ⟨x10,v11,h⟩:=h
 refine Zv (OV.loadT rfl rfl rfl v11) (GL.callU (xv:=p_f) (vs:=[.agg (Qf.c x10).toArray]) h trivial rfl rfl rfl ?_)
 rintro _ H13 ⟨r12,rfl,h⟩
 refine GL.nil (Yd h (fun u14 h=>?_) fun u14 h=>?_)
 refine Zo (Zm (Za (GL.nil ?_)))
 exact Y1 I3 ⟨x1,rfl,h⟩
 refine GC.skip_to I3 (GC.region (Zi (.int .i64 (w .i64 (x1+1))) (Zm ?_)))
 exact Yj I3 (w .i64 (x1+1)) h
 refine GC.exit_to I3 (Zo (Za (GL.nil ?_)))
 exact Y1 I3 ⟨(-1),rfl,h⟩
def Q1 (C:Ctx) (p_s:Sl) (p_f:Value) (K:Bool→Heap→Prop) (H:Heap):Prop:=
 Qa1 C p_s p_f (fun r1 H2=>
 K (decide ((r1:Int) ≥ 0)) H2) H
theorem QaG (C p_s p_f K H) (h:Q1 C p_s p_f K H):QG C p_s p_f K H:=by
 refine Ye Tryz.func202 rfl Tryz.ntmps202 [(0,slv p_s),(1,p_f)] (Zo (Za (GL.nil (Zo (Zm (Zm (Zc h QcN ?_)))))))
 rintro _ H2 ⟨r1,rfl,h⟩
 refine Zi (.bool (decide ((r1:Int) ≥ 0))) (Za (GL.nil ?_))
 exact Y1 I3 ⟨(decide ((r1:Int) ≥ 0)),rfl,h⟩
def Qgn (C:Ctx) (p_x:Qd) (v0:Nat×Nat) (K:Bool→Heap→Prop) (H:Heap):Prop:=
 nw (Qd.c p_x) (fun b1 H2=>
 ldT H2 Qd.c (b1,0) fun x3=>
 ldL H2 v0 fun x5=>
 Qed C x3 x5 (fun r7 H8=>
 K r7 H8) H2) H
theorem Qi8 (C p_x v0 K H) (h:Qgn C p_x v0 K H):Qjz C p_x v0 K H:=by
 refine Ye Tryz.func203 rfl Tryz.ntmps203 [(0,.agg (Qd.c p_x).toArray),(1,pv (some v0))] (Zo (GL.box (v:=.agg (Qd.c p_x).toArray) (cs:=Qd.c p_x) h trivial rfl rfl rfl ?_))
 intro b1 H2 h
 refine Za (GL.nil (Zo ?_))
 obtain ⟨x3,hr4,h⟩:=h
 refine Zv (OV.loadT rfl rfl rfl hr4) (Yl h fun x5 h=>?_)
 refine Zc h QhE ?_
 rintro _ H8 ⟨r7,rfl,h⟩
 refine Za (GL.nil ?_)
 exact Y1 I3 ⟨r7,rfl,h⟩
def Qcv (C:Ctx) (p_s:Str) (p_sep:Str) (K:Str→Str→Bool→Heap→Prop) (H:Heap):Prop:=
 QaX C p_s p_sep (fun r1 H2=>
 ift (decide ((r1:Int) ≥ 0))
 (slS p_s 0 r1 fun t4=>
 slS p_s (w .i64 (r1+(List.length p_sep:Int))) (List.length p_s:Int) fun t10=>
 K t4 t10 true H2)
 (K p_s [] false H2)) H
theorem Qef (C p_s p_sep K H) (h:Qcv C p_s p_sep K H):QcG C p_s p_sep K H:=by
 refine Ye Tryz.func204 rfl Tryz.ntmps204 [(0,sv p_s),(1,sv p_sep)] (Zo (Za (Za (Za (GL.nil (GC.seq (Zo (Zm (Zm (Zc h QdZ ?_))))))))))
 rintro _ H2 ⟨r1,rfl,h⟩
 refine Za (GL.nil (Zo (Zm (Zi (.bool (decide ((r1:Int) ≥ 0))) (GL.nil (Yd h (fun u3 h=>?_) fun u3 h=>?_))))))
 refine GC.seq (GC.draw (by kernel_rfl) (by kernel_rfl) (GQ.val trivial rfl (OV.move (v:=sv p_s) rfl) (GQ.val trivial rfl (OV.move (v:=.int .i64 r1) rfl) ?_)))
 obtain ⟨h5,h6,h7,t4,h8,h⟩:=h
 refine GQ.val trivial rfl (OV.sliceStr (s:=p_s) h5 h6 h7 h8 rfl rfl rfl rfl rfl rfl) (GQ.val trivial rfl (OV.move (v:=sv p_s) rfl) (GQ.val trivial rfl (OV.move (v:=.int .i64 r1) rfl) (GQ.val trivial rfl (OV.move (v:=sv p_sep) rfl) (GQ.val trivial rfl (OV.lenStr (s:=p_sep) rfl rfl) (GQ.val trivial rfl (OV.ibin (v:=.int .i64 (w .i64 (r1+(List.length p_sep:Int)))) rfl rfl rfl) ?_)))))
 obtain ⟨h11,h12,h13,t10,h14,h⟩:=h
 refine GQ.val trivial rfl (OV.sliceStr (s:=p_s) h11 h12 h13 h14 rfl rfl rfl rfl rfl rfl) (GQ.val trivial rfl (OV.assign (v:=sv t4) rfl) (GQ.val trivial rfl (OV.assign (v:=sv t10) rfl) (GQ.val trivial rfl (OV.assign (v:=.bool true) rfl) (GQ.nil (GL.nil ?_)))))
 exact Y3 I3 ⟨t4,t10,true,rfl,h⟩
 refine GC.skip (Zo (Zm (Za (Za (Za (GL.nil ?_))))))
 exact Y3 I3 ⟨p_s,[],false,rfl,h⟩
def Qdi (C:Ctx) (p_l:Sl) (p_depth:Value) (K:Int→Heap→Prop) (H:Heap):Prop:=
 lp (α:=Int×Int) (0,0) H (fun x1 J2 H3=>
 ift (decide ((x1.2:Int) < (Sl.len p_l:Int)))
 (ixa p_l x1.2 fun p5=>
 ldT H3 Qd.c (p5.1,p5.2+(x1.2:Int).toNat*2) fun x10=>
 nw (Qd.c Qd.zero) (fun b12 H13=>
 stT (b12,0) (Qd.c x10) (fun H14=>
 ldT H14 Qd.c (b12,0) fun x15=>
 callU Tryz.prog C p_depth [.agg (Qd.c x15).toArray] H14 (fun v H18=>∃ (r17:Int),v=.int .i64 r17∧
 J2 ((if r17 > x1.1 then r17 else x1.1:Int),(w .i64 (x1.2+1))) H18)) H13) H3)
 (K x1.1 H3))
theorem Qfr (C p_l p_depth K H) (h:Qdi C p_l p_depth K H):QS C p_l p_depth K H:=by
 refine Ye Tryz.func220 rfl Tryz.ntmps220 [(0,slv p_l),(1,p_depth)] (Zo (Za (GL.nil (Zo (Za (GL.nil (GC.seq (Zo (Zm (Zq (Zm (GL.nil (GC.block (Yp h (fun x1=>[(5,.int .i64 x1.1),(10,.int .i64 x1.2),(1,p_depth),(8,slv p_l),(9,.int .i64 (Sl.len p_l:Int))]) ?_))))))))))))))
 intro x1 H3 J2 h
 refine Zo (Zi (.bool (decide ((x1.2:Int) < (Sl.len p_l:Int)))) (GL.nil (GC.seq (Yd h (fun u4 h=>?_) fun u4 h=>?_))))
 refine GC.skip (GC.seq (GC.block (Zo (Yx h fun p5 h=>?_))))
 obtain ⟨x10,v11,h⟩:=h
 refine Zv (OV.loadT rfl rfl rfl v11) (GL.alloc (cs:=Qd.c Qd.zero) h trivial rfl rfl rfl ?_)
 intro b12 H13 h
 refine GL.storeT (p:=(b12,0)) (vs:=Qd.c x10) h trivial rfl rfl rfl rfl ?_
 intro H14 h
 refine GL.nil (GC.region (Zm (Zm ?_)))
 obtain ⟨x15,v16,h⟩:=h
 refine Zv (OV.loadT rfl rfl rfl v16) (GL.callU (xv:=p_depth) (vs:=[.agg (Qd.c x15).toArray]) h trivial rfl rfl rfl ?_)
 rintro _ H18 ⟨r17,rfl,h⟩
 refine Zv (OV.maxI rfl rfl) (Za (GL.nil_to I3 (GC.region (Zi (.int .i64 (w .i64 (x1.2+1))) (Zm ?_)))))
 exact Yj I3 ((if r17 > x1.1 then r17 else x1.1:Int),(w .i64 (x1.2+1))) h
 refine GC.exit_to I3 (Zo (Zm (Za (GL.nil ?_))))
 exact Y1 I3 ⟨x1.1,rfl,h⟩
def QbT (C:Ctx) (p_s:Str) (p_substr:Str) (K:Int→Heap→Prop) (H:Heap):Prop:=
 ift ((((List.length p_substr:Int):Int) == 0) || (p_substr == p_s))
 (K 0 H)
 (ift (((List.length p_substr:Int):Int) == 1)
 (ixs p_substr 0 fun c4=>
 Qaz C p_s (c4.toNat:Int) (fun r7 H8=>
 K r7 H8) H)
 (ift (decide (((List.length p_substr:Int):Int) ≥ (List.length p_s:Int)))
 (K (-1) H)
 (ldI H .i64 (0,0) fun x10=>
 ift ((decide (((List.length p_substr:Int):Int)≤x10)) && (decide (((List.length p_s:Int):Int)≤64)))
 (False)
 (ixs p_substr 0 fun c14=>
 ixs p_substr 1 fun c17=>
 lp (α:=Int×Int) (0,0) H (fun x20 J21 H22=>
 ift (decide ((x20.1:Int) < (w .i64 ((w .i64 ((List.length p_s:Int) - (List.length p_substr:Int)))+1))))
 (jn (α:=Int) (fun x25 H26=>
 ixs p_s (w .i64 (x25+1)) fun c41=>
 jn (α:=Bool) (fun b44 H54=>
 ift b44
 (K x25 H54)
 (ldI H54 .i64 (0,0) fun x56=>
 jn (α:=Bool) (fun b58 H64=>
 ift b58
 (False)
 (ldI H64 .i64 (0,0) fun x72=>
 ift (((decide (((List.length p_substr:Int):Int) > x72)) && (decide (((w .i64 (x20.2+1)):Int) ≥ (w .i64 (4+(sShr .i64 (w .i64 (x25+1)) 4)))))) && (decide (((w .i64 (x25+1)):Int) < (w .i64 ((w .i64 ((List.length p_s:Int) - (List.length p_substr:Int)))+1)))))
 (slS p_s (w .i64 (x25+1)) (List.length p_s:Int) fun t77=>
 Qcj C t77 p_substr (fun r83 H84=>
 ift (decide ((r83:Int) < 0))
 (K (-1) H84)
 (K (w .i64 ((w .i64 (x25+1))+r83)) H84)) H64)
 (J21 ((w .i64 (x25+1)),(w .i64 (x20.2+1))) H64)))
 (fun J59=>ift (decide (((List.length p_substr:Int):Int)≤x56))
 (QeA C (w .i64 (x25+1)) (fun r62 H63=>
 J59 (decide (((w .i64 (x20.2+1)):Int) > r62)) H63) H54)
 (J59 false H54))))
 (fun J45=>ift (((c41.toNat:Int):Int) == (c17.toNat:Int))
 (slS p_s x25 (w .i64 (x25+(List.length p_substr:Int))) fun t48=>
 J45 (t48 == p_substr) H26)
 (J45 false H26)))
 (fun J24=>ixs p_s x20.1 fun c28=>
 ift (((c28.toNat:Int):Int) != (c14.toNat:Int))
 (slS p_s (w .i64 (x20.1+1)) (w .i64 ((w .i64 ((List.length p_s:Int) - (List.length p_substr:Int)))+1)) fun t32=>
 Qaz C t32 (c14.toNat:Int) (fun r38 H39=>
 ift (decide ((r38:Int) < 0))
 (K (-1) H39)
 (J24 (w .i64 (x20.1+(w .i64 (r38+1)))) H39)) H22)
 (J24 x20.1 H22)))
 (K (-1) H22))))))
theorem QdU (C p_s p_substr K H) (h:QbT C p_s p_substr K H):QaX C p_s p_substr K H:=by
 refine Ye Tryz.func221 rfl Tryz.ntmps221 [(0,sv p_s),(1,sv p_substr)] (Zo (Za (GL.nil (Zo (Zm (Zr (Za (GL.nil (GC.seq (GC.block (Zo (Zm (Zi (.bool (((List.length p_substr:Int):Int) == 0)) (Zm (GL.cut0 4 [(23,.bool ((((List.length p_substr:Int):Int) == 0) || (p_substr == p_s))),(0,sv p_s),(1,sv p_substr),(5,.int .i64 (List.length p_substr:Int))] ?_ ?_)))))))))))))))
 rcases Zb (((List.length p_substr:Int):Int) == 0) with hc1 | hc1
 refine Zk hc1 (Zk hc1 (Zk hc1 (Zt hc1 ?_)))
 exact GL.jump0 I3 () rfl ⟨(by rw [hc1]; rfl),rfl,rfl,rfl,trivial⟩
 refine Zu hc1 Ym (Zu hc1 Ym (Zu hc1 (OV.sbin (a:=p_substr) (b:=p_s) (v:=.bool (p_substr == p_s)) rfl rfl rfl) (Zn hc1 ?_)))
 exact GL.jump0 I3 () rfl ⟨(by rw [hc1]; rfl),rfl,rfl,rfl,trivial⟩
 refine Za (GL.nil (Yd h (fun hc2 h=>?_) fun hc2 h=>?_))
 refine Zo (Za (GL.nil ?_))
 exact Y1 I3 ⟨0,rfl,h⟩
 refine Zo (Zm (Zi (.bool (((List.length p_substr:Int):Int) == 1)) (Za (GL.nil (Yd h (fun hc3 h=>?_) fun hc3 h=>?_)))))
 refine Zo (Zm (Zm (Ys h fun c4 h=>?_)))
 refine Zc h Qbf ?_
 rintro _ H8 ⟨r7,rfl,h⟩
 refine Za (GL.nil ?_)
 exact Y1 I3 ⟨r7,rfl,h⟩
 refine Zo (Zm (Zm (Zr (Zi (.bool (decide (((List.length p_substr:Int):Int) ≥ (List.length p_s:Int)))) (Za (GL.nil (Yd h (fun hc9 h=>?_) fun hc9 h=>?_)))))))
 refine Zo (Za (GL.nil ?_))
 exact Y1 I3 ⟨(-1),rfl,h⟩
 refine Zo (Zm (Yl h fun x10 h=>?_))
 refine Zi (.bool (decide (((List.length p_substr:Int):Int)≤x10))) (Zm (GL.cut0 4 [(44,.bool ((decide (((List.length p_substr:Int):Int)≤x10)) && (decide (((List.length p_s:Int):Int)≤64)))),(0,sv p_s),(1,sv p_substr),(5,.int .i64 (List.length p_substr:Int))] ?_ ?_))
 rcases Zb (decide (((List.length p_substr:Int):Int)≤x10)) with hc12 | hc12
 refine Zu hc12 Ym (Zu hc12 (OV.lenStr rfl rfl) (Zu hc12 (OV.ibin (v:=.bool (decide (((List.length p_s:Int):Int)≤64))) rfl rfl rfl) (Zt hc12 ?_)))
 exact GL.jump0 I3 () rfl ⟨(by rw [hc12]; rfl),rfl,rfl,rfl,trivial⟩
 refine Zk hc12 (Zk hc12 (Zk hc12 (Zn hc12 ?_)))
 exact GL.jump0 I3 () rfl ⟨(by rw [hc12]; rfl),rfl,rfl,rfl,trivial⟩
 refine Za (GL.nil (Yd h (fun hc13 h=>?_) fun hc13 h=>?_))
 refine GC.seq ?_
 exact GC.never h
 refine GC.skip_to I3 (Zo (Zm ?_))
 refine Ys h fun c14 h=>?_
 refine Za (GL.nil (Zo (Zm (Ys h fun c17 h=>?_))))
 refine Za (GL.nil (Zo (Za (GL.nil (Zo (Zm (Zr (Zm (Zi (.int .i64 (w .i64 ((List.length p_s:Int) - (List.length p_substr:Int)))) (Zi (.int .i64 (w .i64 ((w .i64 ((List.length p_s:Int) - (List.length p_substr:Int)))+1))) (Za (GL.nil (Zo (Za (GL.nil (GC.seq (GC.block (Yp h (fun x20=>[(8,.int .i64 x20.1),(10,.int .i64 x20.2),(0,sv p_s),(1,sv p_substr),(5,.int .i64 (List.length p_substr:Int)),(6,.int .u8 (c14.toNat:Int)),(7,.int .u8 (c17.toNat:Int)),(9,.int .i64 (w .i64 ((w .i64 ((List.length p_s:Int) - (List.length p_substr:Int)))+1)))]) ?_))))))))))))))))))
 intro x20 H22 J21 h
 refine GC.seq (Zo (Zm (Zm (Zi (.bool (decide ((x20.1:Int) < (w .i64 ((w .i64 ((List.length p_s:Int) - (List.length p_substr:Int)))+1))))) (GL.nil (Yd h (fun hc23 h=>?_) fun hc23 h=>?_))))))
 refine GC.skip (GC.block ?_)
 obtain ⟨J24,h,hR27⟩:=h
 refine GC.join (α:=Int) J24 (fun x25=>[(8,.int .i64 x25),(0,sv p_s),(1,sv p_substr),(5,.int .i64 (List.length p_substr:Int)),(6,.int .u8 (c14.toNat:Int)),(7,.int .u8 (c17.toNat:Int)),(9,.int .i64 (w .i64 ((w .i64 ((List.length p_s:Int) - (List.length p_substr:Int)))+1))),(10,.int .i64 x20.2)]) ?_ ?_
 refine Zo (Zm (Zm (Ys h fun c28 h=>?_)))
 refine Zm (Zi (.bool (((c28.toNat:Int):Int) != (c14.toNat:Int))) (GL.nil (Yd h (fun hc31 h=>?_) fun hc31 h=>?_)))
 refine Zo (Zm (Zm (Zi (.int .i64 (w .i64 (x20.1+1))) (Zm ?_))))
 obtain ⟨h33,h34,h35,t32,h36,h⟩:=h
 refine Zv (OV.sliceStr (s:=p_s) h33 h34 h35 h36 rfl rfl rfl rfl rfl rfl) (Zm (Zc h Qbf ?_))
 rintro _ H39 ⟨r38,rfl,h⟩
 refine Za (GL.nil (GC.seq (Zo (Zm (Zi (.bool (decide ((r38:Int) < 0))) (GL.nil (Yd h (fun hc40 h=>?_) fun hc40 h=>?_)))))))
 refine Zo (Za (GL.nil ?_))
 exact Y1 I3 ⟨(-1),rfl,h⟩
 refine GC.skip (GC.region (Zm (Zm (Zi (.int .i64 (w .i64 (r38+1))) (Zi (.int .i64 (w .i64 (x20.1+(w .i64 (r38+1))))) (Za ?_))))))
 exact Yj I3 (w .i64 (x20.1+(w .i64 (r38+1)))) h
 exact Yk I3 x20.1 h
 intro x25 H26 h
 replace h:=hR27 x25 H26 h
 refine GC.seq (Zo (Zm (Zm (Zi (.int .i64 (w .i64 (x25+1))) (Ys h fun c41 h=>?_)))))
 refine Zm (Zi (.bool (((c41.toNat:Int):Int) == (c17.toNat:Int))) (Zm ?_))
 obtain ⟨J45,h,hR46⟩:=h
 refine GL.cut (α:=Bool) 9 J45 (fun b44=>[(93,.bool b44),(0,sv p_s),(1,sv p_substr),(5,.int .i64 (List.length p_substr:Int)),(6,.int .u8 (c14.toNat:Int)),(7,.int .u8 (c17.toNat:Int)),(8,.int .i64 x25),(9,.int .i64 (w .i64 ((w .i64 ((List.length p_s:Int) - (List.length p_substr:Int)))+1))),(10,.int .i64 x20.2)]) ?_ ?_
 rcases h.em with ⟨hc47,h⟩ | ⟨hc47,h⟩
 refine Zu hc47 Ym (Zu hc47 Ym (Zu hc47 Ym (Zu hc47 Ym (Zu hc47 (OV.ibin (v:=.int .i64 (w .i64 (x25+(List.length p_substr:Int)))) rfl rfl rfl) ?_))))
 obtain ⟨h49,h50,h51,t48,h52,h⟩:=h
 refine Zu hc47 (OV.sliceStr (s:=p_s) h49 h50 h51 h52 rfl rfl rfl rfl rfl rfl) (Zu hc47 Ym (Zu hc47 (OV.sbin (a:=t48) (b:=p_substr) (v:=.bool (t48 == p_substr)) rfl rfl rfl) (Zt hc47 ?_)))
 exact Yj I3 (t48 == p_substr) h
 refine Zk hc47 (Zk hc47 (Zk hc47 (Zk hc47 (Zk hc47 (Zk hc47 (Zk hc47 (Zk hc47 (Zn hc47 ?_))))))))
 exact Yj I3 false h
 intro b44 H54 h
 replace h:=hR46 b44 H54 h
 refine GL.nil (Yd h (fun hc55 h=>?_) fun hc55 h=>?_)
 refine Zo (Zm (Za (GL.nil ?_)))
 exact Y1 I3 ⟨x25,rfl,h⟩
 refine GC.skip (Zo (Zm (Zi (.int .i64 (w .i64 (x25+1))) (Za (GL.nil (Zo (Zm (Zi (.int .i64 (w .i64 (x20.2+1))) (Za (GL.nil (Zo (Zm (Yl h fun x56 h=>?_)))))))))))))
 refine Zi (.bool (decide (((List.length p_substr:Int):Int)≤x56))) (Zm ?_)
 obtain ⟨J59,h,hR60⟩:=h
 refine GL.cut (α:=Bool) 5 J59 (fun b58=>[(107,.bool b58),(0,sv p_s),(1,sv p_substr),(5,.int .i64 (List.length p_substr:Int)),(6,.int .u8 (c14.toNat:Int)),(7,.int .u8 (c17.toNat:Int)),(8,.int .i64 (w .i64 (x25+1))),(9,.int .i64 (w .i64 ((w .i64 ((List.length p_s:Int) - (List.length p_substr:Int)))+1))),(10,.int .i64 (w .i64 (x20.2+1)))]) ?_ ?_
 rcases h.em with ⟨hc61,h⟩ | ⟨hc61,h⟩
 refine Zu hc61 Ym (Zu hc61 Ym (GL.call h (Yt hc61) rfl Qeo (vs:=[.int .i64 (w .i64 (x25+1))]) rfl ?_))
 rintro _ H63 ⟨r62,rfl,h⟩
 refine Zu hc61 (OV.ibin (v:=.bool (decide (((w .i64 (x20.2+1)):Int) > r62))) rfl rfl rfl) (Zt hc61 ?_)
 exact Yj I3 (decide (((w .i64 (x20.2+1)):Int) > r62)) h
 refine Zk hc61 (Zk hc61 (Zk hc61 (Zk hc61 (Zn hc61 ?_))))
 exact Yj I3 false h
 intro b58 H64 h
 replace h:=hR60 b58 H64 h
 refine GL.nil (Yd h (fun hc65 h=>?_) fun hc65 h=>?_)
 refine GC.seq ?_
 exact GC.never h
 refine Zo (Zm (Yl h fun x72 h=>?_))
 refine Zi (.bool (decide (((List.length p_substr:Int):Int) > x72))) (Zm (GL.cut0 6 [(127,.bool ((decide (((List.length p_substr:Int):Int) > x72)) && (decide (((w .i64 (x20.2+1)):Int) ≥ (w .i64 (4+(sShr .i64 (w .i64 (x25+1)) 4))))))),(0,sv p_s),(1,sv p_substr),(5,.int .i64 (List.length p_substr:Int)),(6,.int .u8 (c14.toNat:Int)),(7,.int .u8 (c17.toNat:Int)),(8,.int .i64 (w .i64 (x25+1))),(9,.int .i64 (w .i64 ((w .i64 ((List.length p_s:Int) - (List.length p_substr:Int)))+1))),(10,.int .i64 (w .i64 (x20.2+1)))] ?_ ?_))
 rcases Zb (decide (((List.length p_substr:Int):Int) > x72)) with hc74 | hc74
 refine Zu hc74 Ym (Zu hc74 Ym (Zu hc74 (OV.shr rfl rfl (by decide)) (Zu hc74 (OV.ibin (v:=.int .i64 (w .i64 (4+(sShr .i64 (w .i64 (x25+1)) 4)))) rfl rfl rfl) (Zu hc74 (OV.ibin (v:=.bool (decide (((w .i64 (x20.2+1)):Int) ≥ (w .i64 (4+(sShr .i64 (w .i64 (x25+1)) 4)))))) rfl rfl rfl) (Zt hc74 ?_)))))
 exact GL.jump0 I3 () rfl ⟨(by rw [hc74]; rfl),rfl,rfl,rfl,rfl,rfl,rfl,rfl,rfl,trivial⟩
 refine Zk hc74 (Zk hc74 (Zk hc74 (Zk hc74 (Zk hc74 (Zn hc74 ?_)))))
 exact GL.jump0 I3 () rfl ⟨(by rw [hc74]; rfl),rfl,rfl,rfl,rfl,rfl,rfl,rfl,rfl,trivial⟩
 refine Zm (GL.cut0 4 [(132,.bool (((decide (((List.length p_substr:Int):Int) > x72)) && (decide (((w .i64 (x20.2+1)):Int) ≥ (w .i64 (4+(sShr .i64 (w .i64 (x25+1)) 4)))))) && (decide (((w .i64 (x25+1)):Int) < (w .i64 ((w .i64 ((List.length p_s:Int) - (List.length p_substr:Int)))+1)))))),(0,sv p_s),(1,sv p_substr),(5,.int .i64 (List.length p_substr:Int)),(6,.int .u8 (c14.toNat:Int)),(7,.int .u8 (c17.toNat:Int)),(8,.int .i64 (w .i64 (x25+1))),(9,.int .i64 (w .i64 ((w .i64 ((List.length p_s:Int) - (List.length p_substr:Int)))+1))),(10,.int .i64 (w .i64 (x20.2+1)))] ?_ ?_)
 rcases Zb ((decide (((List.length p_substr:Int):Int) > x72)) && (decide (((w .i64 (x20.2+1)):Int) ≥ (w .i64 (4+(sShr .i64 (w .i64 (x25+1)) 4)))))) with hc75 | hc75
 refine Zu hc75 Ym (Zu hc75 Ym (Zu hc75 (OV.ibin (v:=.bool (decide (((w .i64 (x25+1)):Int) < (w .i64 ((w .i64 ((List.length p_s:Int) - (List.length p_substr:Int)))+1))))) rfl rfl rfl) (Zt hc75 ?_)))
 exact GL.jump0 I3 () rfl ⟨(by rw [hc75]; rfl),rfl,rfl,rfl,rfl,rfl,rfl,rfl,rfl,trivial⟩
 refine Zk hc75 (Zk hc75 (Zk hc75 (Zn hc75 ?_)))
 exact GL.jump0 I3 () rfl ⟨(by rw [hc75]; rfl),rfl,rfl,rfl,rfl,rfl,rfl,rfl,rfl,trivial⟩
 refine GL.nil (Yd h (fun hc76 h=>?_) fun hc76 h=>?_)
 refine Zo (Zm (Zm ?_))
 obtain ⟨h78,h79,h80,t77,h81,h⟩:=h
 refine Zv (OV.sliceStr (s:=p_s) h78 h79 h80 h81 rfl rfl rfl rfl rfl rfl) (Zm (Zc h Qb7 ?_))
 rintro _ H84 ⟨r83,rfl,h⟩
 refine Za (GL.nil (GC.seq (Zo (Zm (Zi (.bool (decide ((r83:Int) < 0))) (GL.nil (Yd h (fun hc85 h=>?_) fun hc85 h=>?_)))))))
 refine Zo (Za (GL.nil ?_))
 exact Y1 I3 ⟨(-1),rfl,h⟩
 refine GC.skip (Zo (Zm (Zm (Zi (.int .i64 (w .i64 ((w .i64 (x25+1))+r83))) (Za (GL.nil ?_))))))
 exact Y1 I3 ⟨(w .i64 ((w .i64 (x25+1))+r83)),rfl,h⟩
 exact Yk I3 ((w .i64 (x25+1)),(w .i64 (x20.2+1))) h
 refine GC.exit_to I3 (Zo (Za (GL.nil ?_)))
 exact Y1 I3 ⟨(-1),rfl,h⟩
def Qbi (C:Ctx) (p_s:Sl) (p_f:Value) (K:Int→Heap→Prop) (H:Heap):Prop:=
 lp (α:=Int) 0 H (fun x1 J2 H3=>
 ift (decide ((x1:Int) < (Sl.len p_s:Int)))
 (ixa p_s x1 fun p5=>
 ldS H3 (p5.1,p5.2+(x1:Int).toNat*1) fun x10=>
 callU Tryz.prog C p_f [sv x10] H3 (fun v H13=>∃ (r12:Bool),v=.bool r12∧
 ift r12
 (K x1 H13)
 (J2 (w .i64 (x1+1)) H13)))
 (K (-1) H3))
theorem Qdp (C p_s p_f K H) (h:Qbi C p_s p_f K H):Qbm C p_s p_f K H:=by
 refine Ye Tryz.func222 rfl Tryz.ntmps222 [(0,slv p_s),(1,p_f)] (Zo (Za (GL.nil (GC.seq (Zo (Zm (Zq (Zm (GL.nil (GC.block (Yp h (fun x1=>[(8,.int .i64 x1),(0,slv p_s),(1,p_f),(7,.int .i64 (Sl.len p_s:Int))]) ?_)))))))))))
 intro x1 H3 J2 h
 refine Zo (Zi (.bool (decide ((x1:Int) < (Sl.len p_s:Int)))) (GL.nil (GC.seq (Yd h (fun u4 h=>?_) fun u4 h=>?_))))
 refine GC.skip (GC.seq (GC.block (Zo (Zm (Za (GL.nil (Zo (Zm (Zm (Zm (Yx h fun p5 h=>?_)))))))))))
 refine Yl h fun x10 h=>?_
 refine GL.callU (xv:=p_f) (vs:=[sv x10]) h trivial rfl rfl rfl ?_
 rintro _ H13 ⟨r12,rfl,h⟩
 refine GL.nil (Yd h (fun u14 h=>?_) fun u14 h=>?_)
 refine Zo (Zm (Za (GL.nil ?_)))
 exact Y1 I3 ⟨x1,rfl,h⟩
 refine GC.skip_to I3 (GC.region (Zi (.int .i64 (w .i64 (x1+1))) (Zm ?_)))
 exact Yj I3 (w .i64 (x1+1)) h
 refine GC.exit_to I3 (Zo (Za (GL.nil ?_)))
 exact Y1 I3 ⟨(-1),rfl,h⟩
def QgM (C:Ctx) (p_x:Qd) (v0:Nat×Nat) (K:Bool→Heap→Prop) (H:Heap):Prop:=
 nw (Qd.c p_x) (fun b1 H2=>
 ldV H2 v0 fun x3=>
 ldT H2 Qd.c (b1,0) fun x5=>
 callU Tryz.prog C x3 [.agg (Qd.c x5).toArray] H2 (fun v H8=>∃ (r7:Bool),v=.bool r7∧
 K (!r7) H8)) H
theorem QgB (C p_x v0 K H) (h:QgM C p_x v0 K H):QgT C p_x v0 K H:=by
 refine Ye Tryz.func223 rfl Tryz.ntmps223 [(0,.agg (Qd.c p_x).toArray),(1,pv (some v0))] (Zo (GL.box (v:=.agg (Qd.c p_x).toArray) (cs:=Qd.c p_x) h trivial rfl rfl rfl ?_))
 intro b1 H2 h
 refine Za (GL.nil (Zo (Yl h fun x3 h=>?_)))
 obtain ⟨x5,hr6,h⟩:=h
 refine Zv (OV.loadT rfl rfl rfl hr6) (GL.callU (xv:=x3) (vs:=[.agg (Qd.c x5).toArray]) h trivial rfl rfl rfl ?_)
 rintro _ H8 ⟨r7,rfl,h⟩
 refine Zv (OV.not rfl) (Za (GL.nil ?_))
 exact Y1 I3 ⟨(!r7),rfl,h⟩
def QaV (C:Ctx) (p_s:Sl) (p_f:Value) (K:Int→Heap→Prop) (H:Heap):Prop:=
 lp (α:=Int) 0 H (fun x1 J2 H3=>
 ift (decide ((x1:Int) < (Sl.len p_s:Int)))
 (ixa p_s x1 fun p5=>
 ldT H3 Qh.c (p5.1,p5.2+(x1:Int).toNat*9) fun x10=>
 callU Tryz.prog C p_f [.agg (Qh.c x10).toArray] H3 (fun v H13=>∃ (r12:Bool),v=.bool r12∧
 ift r12
 (K x1 H13)
 (J2 (w .i64 (x1+1)) H13)))
 (K (-1) H3))
theorem QcI (C p_s p_f K H) (h:QaV C p_s p_f K H):QaZ C p_s p_f K H:=by
 refine Ye Tryz.func224 rfl Tryz.ntmps224 [(0,slv p_s),(1,p_f)] (Zo (Za (GL.nil (GC.seq (Zo (Zm (Zq (Zm (GL.nil (GC.block (Yp h (fun x1=>[(8,.int .i64 x1),(0,slv p_s),(1,p_f),(7,.int .i64 (Sl.len p_s:Int))]) ?_)))))))))))
 intro x1 H3 J2 h
 refine Zo (Zi (.bool (decide ((x1:Int) < (Sl.len p_s:Int)))) (GL.nil (GC.seq (Yd h (fun u4 h=>?_) fun u4 h=>?_))))
 refine GC.skip (GC.seq (GC.block (Zo (Zm (Za (GL.nil (Zo (Zm (Zm (Zm (Yx h fun p5 h=>?_)))))))))))
 obtain ⟨x10,v11,h⟩:=h
 refine Zv (OV.loadT rfl rfl rfl v11) (GL.callU (xv:=p_f) (vs:=[.agg (Qh.c x10).toArray]) h trivial rfl rfl rfl ?_)
 rintro _ H13 ⟨r12,rfl,h⟩
 refine GL.nil (Yd h (fun u14 h=>?_) fun u14 h=>?_)
 refine Zo (Zm (Za (GL.nil ?_)))
 exact Y1 I3 ⟨x1,rfl,h⟩
 refine GC.skip_to I3 (GC.region (Zi (.int .i64 (w .i64 (x1+1))) (Zm ?_)))
 exact Yj I3 (w .i64 (x1+1)) h
 refine GC.exit_to I3 (Zo (Za (GL.nil ?_)))
 exact Y1 I3 ⟨(-1),rfl,h⟩
def QhT (C:Ctx) (p_v:Qm) (K:Int→Heap→Prop) (H:Heap):Prop:=
 nw (Qm.c p_v) (fun b1 H2=>
 ldT H2 Qm.c (b1,0) fun x3=>
 QaY C x3 65 (fun r5 H6=>
 ift (decide ((r5:Int) > 64))
 (K 65 H6)
 (ldT H6 Qm.c (b1,0) fun x8=>
 Q7 C x8 (fun r10 r11 H12=>
 ift (!r10)
 (K 4 H12)
 (ift (!r11)
 (K 40 H12)
 (K 0 H12))) H6)) H2) H
theorem Qkx (C p_v K H) (h:QhT C p_v K H):QbL C p_v K H:=by
 refine Ye Tryz.func225 rfl Tryz.ntmps225 [(0,.agg (Qm.c p_v).toArray)] (Zo (GL.box (v:=.agg (Qm.c p_v).toArray) (cs:=Qm.c p_v) h trivial rfl rfl rfl ?_))
 intro b1 H2 h
 refine Za (GL.nil (GC.seq (Zo ?_)))
 obtain ⟨x3,v4,h⟩:=h
 refine Zv (OV.loadT rfl rfl rfl v4) (Zc h QhH ?_)
 rintro _ H6 ⟨r5,rfl,h⟩
 refine Zi (.bool (decide ((r5:Int) > 64))) (GL.nil (Yd h (fun u7 h=>?_) fun u7 h=>?_))
 refine Zo (Za (GL.nil ?_))
 exact Y1 I3 ⟨65,rfl,h⟩
 refine GC.skip (GC.seq (Zo ?_))
 obtain ⟨x8,v9,h⟩:=h
 refine Zv (OV.loadT rfl rfl rfl v9) (Zc h QeN ?_)
 rintro _ H12 ⟨r10,r11,rfl,h⟩
 refine Zm (Yv (.bool r10) rfl rfl (Yv (.bool r11) rfl rfl (Za (Za (GL.nil (GC.block (Zo (Zm (Zv (OV.not rfl) (Za (GL.nil (Yd h (fun u13 h=>?_) fun u13 h=>?_))))))))))))
 refine Zo (Za (GL.nil ?_))
 exact Y1 I3 ⟨4,rfl,h⟩
 refine Zo (Zm (Zv (OV.not rfl) (Za (GL.nil (Yd h (fun u14 h=>?_) fun u14 h=>?_)))))
 refine Zo (Za (GL.nil ?_))
 exact Y1 I3 ⟨40,rfl,h⟩
 refine GC.skip_to I3 (Zo (Za (GL.nil ?_)))
 exact Y1 I3 ⟨0,rfl,h⟩
def Qiz (C:Ctx) (K:Option Nat→Heap→Prop) (H:Heap):Prop:=
 mkM (fun b1 H2=>
 upS sv (fun x:Int=>(.int .i64 x:Value)) (some b1) [110,111,116] 1 (fun H3=>
 upS sv (fun x:Int=>(.int .i64 x:Value)) (some b1) [110,101,103] 1 (fun H4=>
 upS sv (fun x:Int=>(.int .i64 x:Value)) (some b1) [108,101,110] 1 (fun H5=>
 upS sv (fun x:Int=>(.int .i64 x:Value)) (some b1) [98,105,103] 1 (fun H6=>
 upS sv (fun x:Int=>(.int .i64 x:Value)) (some b1) [105,110,116] 1 (fun H7=>
 nw ([sv [43],sv [45],sv [42],sv [47],sv [37],sv [43,43],sv [61,61],sv [33,61],sv [60],sv [60,61],sv [62],sv [62,61],sv [97,110,100],sv [111,114]]) (fun b8 H9=>
 lp (α:=Int) 0 H9 (fun x10 J11 H12=>
 ift (decide ((x10:Int) < (Sl.len (Sl.of (some (b8,0)) 14 14):Int)))
 (ixa (Sl.of (some (b8,0)) 14 14) x10 fun p14=>
 ldS H12 (p14.1,p14.2+(x10:Int).toNat*1) fun x19=>
 upS sv (fun x:Int=>(.int .i64 x:Value)) (some b1) x19 2 (fun H21=>
 J11 (w .i64 (x10+1)) H21) H12)
 (K (some b1) H12))) H7) H6) H5) H4) H3) H2) H
theorem Qlg (C:Ctx) (K:Option Nat→Heap→Prop) (H:Heap) (h:Qiz C  K H):QgU C  K H:=by
 refine Spec.enter Tryz.func226 rfl Tryz.ntmps226 rfl (GC.sub [] trivial (Zo (Za (GL.nil (Zo (GL.makeMap h trivial rfl ?_))))))
 intro b1 H2 h
 refine GL.insertS (ke:=sv) (enc:=(fun x:Int=>(.int .i64 x:Value))) (q:=(some b1)) (k:=[110,111,116]) (x:=1) h trivial rfl rfl rfl rfl (kText rfl) ?_
 intro H3 h
 refine GL.insertS (ke:=sv) (enc:=(fun x:Int=>(.int .i64 x:Value))) (q:=(some b1)) (k:=[110,101,103]) (x:=1) h trivial rfl rfl rfl rfl (kText rfl) ?_
 intro H4 h
 refine GL.insertS (ke:=sv) (enc:=(fun x:Int=>(.int .i64 x:Value))) (q:=(some b1)) (k:=[108,101,110]) (x:=1) h trivial rfl rfl rfl rfl (kText rfl) ?_
 intro H5 h
 refine GL.insertS (ke:=sv) (enc:=(fun x:Int=>(.int .i64 x:Value))) (q:=(some b1)) (k:=[98,105,103]) (x:=1) h trivial rfl rfl rfl rfl (kText rfl) ?_
 intro H6 h
 refine GL.insertS (ke:=sv) (enc:=(fun x:Int=>(.int .i64 x:Value))) (q:=(some b1)) (k:=[105,110,116]) (x:=1) h trivial rfl rfl rfl rfl (kText rfl) ?_
 intro H7 h
 refine Zm (Za (GL.nil (GC.seq (Zo (GL.buildSlice (cs:=[sv [43],sv [45],sv [42],sv [47],sv [37],sv [43,43],sv [61,61],sv [33,61],sv [60],sv [60,61],sv [62],sv [62,61],sv [97,110,100],sv [111,114]]) h trivial rfl (vs:=[(0,sv [43]),(1,sv [45]),(2,sv [42]),(3,sv [47]),(4,sv [37]),(5,sv [43,43]),(6,sv [61,61]),(7,sv [33,61]),(8,sv [60]),(9,sv [60,61]),(10,sv [62]),(11,sv [62,61]),(12,sv [97,110,100]),(13,sv [111,114])]) rfl ⟨9,fun _=>by kernel_rfl⟩ ?_)))))
 intro b8 H9 h
 refine Zq (Zm (GL.nil (GC.block (Yp h (fun x10=>[(8,.int .i64 x10),(1,mv (some b1)),(6,slv (Sl.of (some (b8,0)) 14 14)),(7,.int .i64 (Sl.len (Sl.of (some (b8,0)) 14 14):Int))]) ?_))))
 intro x10 H12 J11 h
 refine Zo (Zi (.bool (decide ((x10:Int) < (Sl.len (Sl.of (some (b8,0)) 14 14):Int)))) (GL.nil (GC.seq (Yd h (fun u13 h=>?_) fun u13 h=>?_))))
 refine GC.skip (GC.seq (GC.block (Zo (Yx h fun p14 h=>?_))))
 refine Yl h fun x19 h=>?_
 refine Za (GL.nil (GC.region (Zm (Zm (GL.mapUpdateS (ke:=sv) (enc:=(fun x:Int=>(.int .i64 x:Value))) (q:=(some b1)) (k:=x19) (x:=2) h trivial rfl rfl rfl rfl (kText rfl) ?_)))))
 intro H21 h
 refine GL.nil_to I3 (GC.region (Zi (.int .i64 (w .i64 (x10+1))) (Zm ?_)))
 exact Yj I3 (w .i64 (x10+1)) h
 refine GC.exit_to I3 (Zo (Zm (Za (GL.nil ?_))))
 exact Y1 I3 ⟨(some b1),rfl,h⟩
def Qi6 (C:Ctx) (p_v:Qm) (K:Bool→Heap→Prop) (H:Heap):Prop:=
 nw (Qm.c p_v) (fun b1 H2=>
 ldI H2 .u8 ((b1,0).1,(b1,0).2+0) fun x3=>
 jn (α:=Bool) (fun b5 H11=>
 jn (α:=Bool) (fun b12 H18=>
 jn (α:=Bool) (fun b19 H25=>
 K b19 H25)
 (fun J20=>ift b12
 (ldL H18 ((b1,0).1,(b1,0).2+3) fun x23=>
 J20 (((Sl.len x23:Int):Int) == 0) H18)
 (J20 false H18)))
 (fun J13=>ift b5
 (ldS H11 ((b1,0).1,(b1,0).2+2) fun x16=>
 J13 (x16 == ([]:Str)) H11)
 (J13 false H11)))
 (fun J6=>ift ((x3:Int) == 0)
 (ldI H2 .i64 ((b1,0).1,(b1,0).2+1) fun x9=>
 J6 ((x9:Int) == 0) H2)
 (J6 false H2))) H
theorem QlZ (C p_v K H) (h:Qi6 C p_v K H):Qc2 C p_v K H:=by
 refine Ye Tryz.func227 rfl Tryz.ntmps227 [(0,.agg (Qm.c p_v).toArray)] (Zo (GL.box (v:=.agg (Qm.c p_v).toArray) (cs:=Qm.c p_v) h trivial rfl rfl rfl ?_))
 intro b1 H2 h
 refine Za (GL.nil (Zo (Zf (Yl h fun x3 h=>?_))))
 refine Zi (.bool ((x3:Int) == 0)) (Zm ?_)
 obtain ⟨J6,h,hR7⟩:=h
 refine GL.cut (α:=Bool) 4 J6 (fun b5=>[(10,.bool b5),(1,pv (some (b1,0)))]) ?_ ?_
 rcases h.em with ⟨u8,h⟩ | ⟨u8,h⟩
 refine Zu u8 Yf ?_
 obtain ⟨x9,v10,h⟩:=h
 refine Zu u8 (Yo v10) (Zu u8 (OV.ibin (v:=.bool ((x9:Int) == 0)) rfl rfl rfl) (Zt u8 ?_))
 exact Yj I3 ((x9:Int) == 0) h
 refine Zk u8 (Zk u8 (Zk u8 (Zn u8 ?_)))
 exact Yj I3 false h
 intro b5 H11 h
 replace h:=hR7 b5 H11 h
 refine Zm ?_
 obtain ⟨J13,h,hR14⟩:=h
 refine GL.cut (α:=Bool) 4 J13 (fun b12=>[(15,.bool b12),(1,pv (some (b1,0)))]) ?_ ?_
 rcases h.em with ⟨u15,h⟩ | ⟨u15,h⟩
 refine Zu u15 Yf ?_
 obtain ⟨x16,v17,h⟩:=h
 refine Zu u15 (Yo v17) (Zu u15 (OV.sbin (a:=x16) (b:=([]:Str)) (v:=.bool (x16 == ([]:Str))) rfl rfl rfl) (Zt u15 ?_))
 exact Yj I3 (x16 == ([]:Str)) h
 refine Zk u15 (Zk u15 (Zk u15 (Zn u15 ?_)))
 exact Yj I3 false h
 intro b12 H18 h
 replace h:=hR14 b12 H18 h
 refine Zm ?_
 obtain ⟨J20,h,hR21⟩:=h
 refine GL.cut (α:=Bool) 5 J20 (fun b19=>[(21,.bool b19)]) ?_ ?_
 rcases h.em with ⟨u22,h⟩ | ⟨u22,h⟩
 refine Zu u22 Yf ?_
 obtain ⟨x23,v24,h⟩:=h
 refine Zu u22 (Yo v24) (Zu u22 (OV.lenSl rfl rfl) (Zu u22 (OV.ibin (v:=.bool (((Sl.len x23:Int):Int) == 0)) rfl rfl rfl) (Zt u22 ?_)))
 exact Yj I3 (((Sl.len x23:Int):Int) == 0) h
 refine Zk u22 (Zk u22 (Zk u22 (Zk u22 (Zn u22 ?_))))
 exact Yj I3 false h
 intro b19 H25 h
 replace h:=hR21 b19 H25 h
 refine Za (GL.nil ?_)
 exact Y1 I3 ⟨b19,rfl,h⟩
def QhR (C:Ctx) (p_x:Qh) (v0:Nat×Nat) (K:Bool→Heap→Prop) (H:Heap):Prop:=
 nw (Qh.c p_x) (fun b1 H2=>
 ldT H2 Qh.c (b1,0) fun x3=>
 ldB H2 v0 fun x5=>
 QbK C x3 x5 (fun r7 H8=>
 K r7 H8) H2) H
theorem Qkv (C p_x v0 K H) (h:QhR C p_x v0 K H):QcF C p_x v0 K H:=by
 refine Ye Tryz.func228 rfl Tryz.ntmps228 [(0,.agg (Qh.c p_x).toArray),(1,pv (some v0))] (Zo (GL.box (v:=.agg (Qh.c p_x).toArray) (cs:=Qh.c p_x) h trivial rfl rfl rfl ?_))
 intro b1 H2 h
 refine Za (GL.nil (Zo ?_))
 obtain ⟨x3,hr4,h⟩:=h
 refine Zv (OV.loadT rfl rfl rfl hr4) (Yl h fun x5 h=>?_)
 refine Zc h Qg6 ?_
 rintro _ H8 ⟨r7,rfl,h⟩
 refine Za (GL.nil ?_)
 exact Y1 I3 ⟨r7,rfl,h⟩
def Q8 (C:Ctx) (p_s:Sl) (p_f:Value) (K:Int→Heap→Prop) (H:Heap):Prop:=
 lp (α:=Int) 0 H (fun x1 J2 H3=>
 ift (decide ((x1:Int) < (Sl.len p_s:Int)))
 (ixa p_s x1 fun p5=>
 ldT H3 Qd.c (p5.1,p5.2+(x1:Int).toNat*2) fun x10=>
 callU Tryz.prog C p_f [.agg (Qd.c x10).toArray] H3 (fun v H13=>∃ (r12:Bool),v=.bool r12∧
 ift r12
 (K x1 H13)
 (J2 (w .i64 (x1+1)) H13)))
 (K (-1) H3))
theorem QaU (C p_s p_f K H) (h:Q8 C p_s p_f K H):Qa1 C p_s p_f K H:=by
 refine Ye Tryz.func229 rfl Tryz.ntmps229 [(0,slv p_s),(1,p_f)] (Zo (Za (GL.nil (GC.seq (Zo (Zm (Zq (Zm (GL.nil (GC.block (Yp h (fun x1=>[(8,.int .i64 x1),(0,slv p_s),(1,p_f),(7,.int .i64 (Sl.len p_s:Int))]) ?_)))))))))))
 intro x1 H3 J2 h
 refine Zo (Zi (.bool (decide ((x1:Int) < (Sl.len p_s:Int)))) (GL.nil (GC.seq (Yd h (fun u4 h=>?_) fun u4 h=>?_))))
 refine GC.skip (GC.seq (GC.block (Zo (Zm (Za (GL.nil (Zo (Zm (Zm (Zm (Yx h fun p5 h=>?_)))))))))))
 obtain ⟨x10,v11,h⟩:=h
 refine Zv (OV.loadT rfl rfl rfl v11) (GL.callU (xv:=p_f) (vs:=[.agg (Qd.c x10).toArray]) h trivial rfl rfl rfl ?_)
 rintro _ H13 ⟨r12,rfl,h⟩
 refine GL.nil (Yd h (fun u14 h=>?_) fun u14 h=>?_)
 refine Zo (Zm (Za (GL.nil ?_)))
 exact Y1 I3 ⟨x1,rfl,h⟩
 refine GC.skip_to I3 (GC.region (Zi (.int .i64 (w .i64 (x1+1))) (Zm ?_)))
 exact Yj I3 (w .i64 (x1+1)) h
 refine GC.exit_to I3 (Zo (Za (GL.nil ?_)))
 exact Y1 I3 ⟨(-1),rfl,h⟩
def Qbh (C:Ctx) (p_s:Str) (p_c:Int) (K:Int→Heap→Prop) (H:Heap):Prop:=
 K (idxB p_s p_c) H
theorem Qdo (C p_s p_c K H) (h:Qbh C p_s p_c K H):Qaz C p_s p_c K H:=by
 refine Ye Tryz.func241 rfl Tryz.ntmps241 [(0,sv p_s),(1,.int .u8 p_c)] (Zo (Za (GL.nil (Zo (Zm (Zm (Zv (OV.ext QcR (vs:=[sv p_s,.int .u8 p_c]) (v:=.int .i64 (idxB p_s p_c)) rfl (fun w=>QnM _ _ w)) (Za (GL.nil ?_)))))))))
 exact Y1 I3 ⟨(idxB p_s p_c),rfl,h⟩
end
section
set_option maxRecDepth 100000
open Go Go.Proofs
def QhU (C:Ctx) (p_v:Qm) (p_most:Int) (K:Int→Heap→Prop) (H:Heap):Prop:=
 nw (Qm.c p_v) (fun b1 H2=>
 jn (α:=Int) (fun x4 H5=>
 K (w .i64 (x4+1)) H5)
 (fun J3=>ldL H2 ((b1,0).1,(b1,0).2+3) fun x7=>
 lp (α:=Int×Int) (0,0) H2 (fun x9 J10 H11=>
 ift (decide ((x9.2:Int) < (Sl.len x7:Int)))
 (ixa x7 x9.2 fun p13=>
 ldT H11 Qm.c (p13.1,p13.2+(x9.2:Int).toNat*4) fun x18=>
 nw (Qm.c Qm.zero) (fun b20 H21=>
 stT (b20,0) (Qm.c x18) (fun H22=>
 ift (decide ((x9.1:Int) ≥ p_most))
 (J3 x9.1 H22)
 (ldT H22 Qm.c (b20,0) fun x24=>
 QaY C x24 (w .i64 (p_most - 1)) (fun r26 H27=>
 J10 ((if r26 > x9.1 then r26 else x9.1:Int),(w .i64 (x9.2+1))) H27) H22)) H21) H11)
 (J3 x9.1 H11)))) H
theorem Qky (C p_v p_most K H) (h:QhU C p_v p_most K H):QaY C p_v p_most K H:=by
 refine Ye Tryz.func245 rfl Tryz.ntmps245 [(0,.agg (Qm.c p_v).toArray),(1,.int .i64 p_most)] (Zo (GL.box (v:=.agg (Qm.c p_v).toArray) (cs:=Qm.c p_v) h trivial rfl rfl rfl ?_))
 intro b1 H2 h
 refine Za (GL.nil (Zo (Za (GL.nil ?_))))
 obtain ⟨J3,h,hR6⟩:=h
 refine GC.join (α:=Int) J3 (fun x4=>[(5,.int .i64 x4)]) ?_ ?_
 refine Zo (Zf (Yl h fun x7 h=>?_))
 refine Zq (Zm (GL.nil (GC.block (Yp h (fun x9=>[(5,.int .i64 x9.1),(11,.int .i64 x9.2),(1,.int .i64 p_most),(9,slv x7),(10,.int .i64 (Sl.len x7:Int))]) ?_))))
 intro x9 H11 J10 h
 refine Zo (Zi (.bool (decide ((x9.2:Int) < (Sl.len x7:Int)))) (GL.nil (GC.seq (Yd h (fun u12 h=>?_) fun u12 h=>?_))))
 refine GC.skip (GC.seq (GC.block (Zo (Yx h fun p13 h=>?_))))
 obtain ⟨x18,v19,h⟩:=h
 refine Zv (OV.loadT rfl rfl rfl v19) (GL.alloc (cs:=Qm.c Qm.zero) h trivial rfl rfl rfl ?_)
 intro b20 H21 h
 refine GL.storeT (p:=(b20,0)) (vs:=Qm.c x18) h trivial rfl rfl rfl rfl ?_
 intro H22 h
 refine GL.nil (GC.seq (Zo (Zm (Zm (Zi (.bool (decide ((x9.1:Int) ≥ p_most))) (GL.nil (Yd h (fun u23 h=>?_) fun u23 h=>?_)))))))
 exact GC.exit_jump I3 x9.1 h ⟨rfl,trivial⟩
 refine GC.skip (GC.region (Zm ?_))
 obtain ⟨x24,v25,h⟩:=h
 refine Zv (OV.loadT rfl rfl rfl v25) (Zm (Zi (.int .i64 (w .i64 (p_most - 1))) (Zc h QhH ?_)))
 rintro _ H27 ⟨r26,rfl,h⟩
 refine Zv (OV.maxI rfl rfl) (Za (GL.nil_to I3 (GC.region (Zi (.int .i64 (w .i64 (x9.2+1))) (Zm ?_)))))
 exact Yj I3 ((if r26 > x9.1 then r26 else x9.1:Int),(w .i64 (x9.2+1))) h
 exact GC.exit_jump I3 x9.1 h ⟨rfl,trivial⟩
 intro x4 H5 h
 replace h:=hR6 x4 H5 h
 refine Zo (Zm (Zi (.int .i64 (w .i64 (x4+1))) (Za (GL.nil ?_))))
 exact Y1 I3 ⟨(w .i64 (x4+1)),rfl,h⟩
def QeR (C:Ctx) (p_v:Qm) (K:Bool→Bool→Heap→Prop) (H:Heap):Prop:=
 nw (Qm.c p_v) (fun b1 H2=>
 ldI H2 .i64 ((b1,0).1,(b1,0).2+1) fun x3=>
 jn (α:=Bool) (fun b5 H11=>
 jn (α:=Bool) (fun b12 H18=>
 jn (α:=Bool×Bool) (fun x20 H21=>
 ldL H21 ((b1,0).1,(b1,0).2+3) fun x149=>
 lp (α:=Bool×Bool×Int) (x20.1,x20.2,0) H21 (fun x151 J152 H153=>
 ift (decide ((x151.2.2:Int) < (Sl.len x149:Int)))
 (ixa x149 x151.2.2 fun p155=>
 ldT H153 Qm.c (p155.1,p155.2+(x151.2.2:Int).toNat*4) fun x160=>
 nw (Qm.c Qm.zero) (fun b162 H163=>
 stT (b162,0) (Qm.c x160) (fun H164=>
 ldT H164 Qm.c (b162,0) fun x165=>
 Q7 C x165 (fun r167 r168 H169=>
 J152 ((x151.1 && r167),(x151.2.1 && r168),(w .i64 (x151.2.2+1))) H169) H164) H163) H153)
 (K x151.1 x151.2.1 H153)))
 (fun J19=>ldI H18 .u8 ((b1,0).1,(b1,0).2+0) fun x23=>
 ift ((x23:Int) == 1)
 (ldI H18 .i64 ((b1,0).1,(b1,0).2+1) fun x26=>
 jn (α:=Bool) (fun b28 H34=>
 jn (α:=Bool) (fun b35 H41=>
 jn (α:=Bool) (fun b42 H48=>
 J19 (b42,true) H48)
 (fun J43=>ift b35
 (ldL H41 ((b1,0).1,(b1,0).2+3) fun x46=>
 J43 (((Sl.len x46:Int):Int) == 0) H41)
 (J43 false H41)))
 (fun J36=>ift b28
 (ldS H34 ((b1,0).1,(b1,0).2+2) fun x39=>
 J36 (x39 == ([]:Str)) H34)
 (J36 false H34)))
 (fun J29=>ift ((x26:Int) == 0)
 (J29 true H18)
 (ldI H18 .i64 ((b1,0).1,(b1,0).2+1) fun x32=>
 J29 ((x32:Int) == 1) H18)))
 (ift ((x23:Int) == 2)
 (ldS H18 ((b1,0).1,(b1,0).2+2) fun x50=>
 jn (α:=Bool) (fun b52 H58=>
 J19 (b52,true) H58)
 (fun J53=>ift (x50 == ([]:Str))
 (ldL H18 ((b1,0).1,(b1,0).2+3) fun x56=>
 J53 (((Sl.len x56:Int):Int) == 0) H18)
 (J53 false H18)))
 (ift ((x23:Int) == 3)
 (ldS H18 ((b1,0).1,(b1,0).2+2) fun x60=>
 Qe3 C x60 (fun r62 r63 H64=>
 jn (α:=Bool) (fun b65 H71=>
 jn (α:=Bool) (fun b72 H78=>
 J19 (b72,(decide ((r62:Int)≤200))) H78)
 (fun J73=>ift b65
 (ldL H71 ((b1,0).1,(b1,0).2+3) fun x76=>
 J73 (((Sl.len x76:Int):Int) == 0) H71)
 (J73 false H71)))
 (fun J66=>ift r63
 (ldI H64 .i64 ((b1,0).1,(b1,0).2+1) fun x69=>
 J66 ((x69:Int) == 0) H64)
 (J66 false H64))) H18)
 (ift ((x23:Int) == 4)
 (jn (α:=Bool×Bool) (fun x81 H82=>
 J19 (x81.1,x81.2) H82)
 (fun J80=>dr H18 fun Hs84=>
 ldI Hs84 .i64 ((b1,0).1,(b1,0).2+1) fun x86=>
 ldS Hs84 ((b1,0).1,(b1,0).2+2) fun x88=>
 ift ((x86:Int) == 0)
 (ldL Hs84 ((b1,0).1,(b1,0).2+3) fun x91=>
 J80 ((((Sl.len x91:Int):Int) == 0),(decide (((List.length x88:Int):Int)≤4096))) H18)
 (J80 (false,(decide (((List.length x88:Int):Int)≤4096))) H18)))
 (ift ((x23:Int) == 5)
 (jn (α:=Bool×Bool) (fun x95 H96=>
 J19 (x95.1,x95.2) H96)
 (fun J94=>dr H18 fun Hs98=>
 ldI Hs98 .i64 ((b1,0).1,(b1,0).2+1) fun x100=>
 ldL Hs98 ((b1,0).1,(b1,0).2+3) fun x102=>
 ift ((x100:Int) == 0)
 (ldS Hs98 ((b1,0).1,(b1,0).2+2) fun x105=>
 ift (x105 == ([]:Str))
 (ldL Hs98 ((b1,0).1,(b1,0).2+3) fun x108=>
 J94 ((((Sl.len x108:Int):Int) != 1),(decide (((Sl.len x102:Int):Int)≤16))) H18)
 (J94 (false,(decide (((Sl.len x102:Int):Int)≤16))) H18))
 (J94 (false,(decide (((Sl.len x102:Int):Int)≤16))) H18)))
 (ift ((x23:Int) == 6)
 (ldS H18 ((b1,0).1,(b1,0).2+2) fun x111=>
 Qdq C x111 [46] (fun r113 r114 r115 H116=>
 jn (α:=Bool×Bool) (fun x118 H119=>
 J19 (x118.1,x118.2) H119)
 (fun J117=>dr H116 fun Hs121=>
 ldI Hs121 .i64 ((b1,0).1,(b1,0).2+1) fun x123=>
 ldL Hs121 ((b1,0).1,(b1,0).2+3) fun x125=>
 ift ((x123:Int) == 0)
 (Qc4 C r113 (fun r129 H130=>
 Heap.le Hs121 H130∧
 ift r129
 (ift r115
 (Qc4 C r114 (fun r134 H135=>
 Heap.le Hs121 H135∧
 ift r134
 (J117 (true,(decide (((Sl.len x125:Int):Int)≤8))) H135)
 (ift (!r115)
 (ldS Hs121 ((b1,0).1,(b1,0).2+2) fun x138=>
 ift (!(x138 == ([116,114,117,101]:Str)))
 (ldS Hs121 ((b1,0).1,(b1,0).2+2) fun x141=>
 J117 ((!(x141 == ([102,97,108,115,101]:Str))),(decide (((Sl.len x125:Int):Int)≤8))) H135)
 (J117 (false,(decide (((Sl.len x125:Int):Int)≤8))) H135))
 (J117 (false,(decide (((Sl.len x125:Int):Int)≤8))) H135))) H130)
 (ift (!r115)
 (ldS Hs121 ((b1,0).1,(b1,0).2+2) fun x144=>
 ift (!(x144 == ([116,114,117,101]:Str)))
 (ldS Hs121 ((b1,0).1,(b1,0).2+2) fun x147=>
 J117 ((!(x147 == ([102,97,108,115,101]:Str))),(decide (((Sl.len x125:Int):Int)≤8))) H130)
 (J117 (false,(decide (((Sl.len x125:Int):Int)≤8))) H130))
 (J117 (false,(decide (((Sl.len x125:Int):Int)≤8))) H130)))
 (J117 (false,(decide (((Sl.len x125:Int):Int)≤8))) H130)) H116)
 (J117 (false,(decide (((Sl.len x125:Int):Int)≤8))) H116))) H18)
 (J19 (false,true) H18))))))))
 (fun J13=>ift b5
 (ldL H11 ((b1,0).1,(b1,0).2+3) fun x16=>
 J13 (((Sl.len x16:Int):Int) == 0) H11)
 (J13 false H11)))
 (fun J6=>ift ((x3:Int) == 0)
 (ldS H2 ((b1,0).1,(b1,0).2+2) fun x9=>
 J6 (x9 == ([]:Str)) H2)
 (J6 false H2))) H
theorem Qib (C p_v K H) (h:QeR C p_v K H):Q7 C p_v K H:=by
 refine Ye Tryz.func246 rfl Tryz.ntmps246 [(0,.agg (Qm.c p_v).toArray)] (Zo (GL.box (v:=.agg (Qm.c p_v).toArray) (cs:=Qm.c p_v) h trivial rfl rfl rfl ?_))
 intro b1 H2 h
 refine Za (Za (GL.nil (Zo (Zf (Yl h fun x3 h=>?_)))))
 refine Zi (.bool ((x3:Int) == 0)) (Zm ?_)
 obtain ⟨J6,h,hR7⟩:=h
 refine GL.cut (α:=Bool) 4 J6 (fun b5=>[(20,.bool b5),(1,pv (some (b1,0)))]) ?_ ?_
 rcases h.em with ⟨u8,h⟩ | ⟨u8,h⟩
 refine Zu u8 Yf ?_
 obtain ⟨x9,v10,h⟩:=h
 refine Zu u8 (Yo v10) (Zu u8 (OV.sbin (a:=x9) (b:=([]:Str)) (v:=.bool (x9 == ([]:Str))) rfl rfl rfl) (Zt u8 ?_))
 exact Yj I3 (x9 == ([]:Str)) h
 refine Zk u8 (Zk u8 (Zk u8 (Zn u8 ?_)))
 exact Yj I3 false h
 intro b5 H11 h
 replace h:=hR7 b5 H11 h
 refine Zm ?_
 obtain ⟨J13,h,hR14⟩:=h
 refine GL.cut (α:=Bool) 5 J13 (fun b12=>[(26,.bool b12),(1,pv (some (b1,0)))]) ?_ ?_
 rcases h.em with ⟨u15,h⟩ | ⟨u15,h⟩
 refine Zu u15 Yf ?_
 obtain ⟨x16,v17,h⟩:=h
 refine Zu u15 (Yo v17) (Zu u15 (OV.lenSl rfl rfl) (Zu u15 (OV.ibin (v:=.bool (((Sl.len x16:Int):Int) == 0)) rfl rfl rfl) (Zt u15 ?_)))
 exact Yj I3 (((Sl.len x16:Int):Int) == 0) h
 refine Zk u15 (Zk u15 (Zk u15 (Zk u15 (Zn u15 ?_))))
 exact Yj I3 false h
 intro b12 H18 h
 replace h:=hR14 b12 H18 h
 refine Za (Za (GL.nil ?_))
 obtain ⟨J19,h,hR22⟩:=h
 refine GC.join (α:=Bool×Bool) J19 (fun x20=>[(2,.bool x20.1),(3,.bool x20.2),(1,pv (some (b1,0)))]) ?_ ?_
 refine Zo (Zf (Yl h fun x23 h=>?_))
 refine GL.nil (GC.block (Zo (Zi (.bool ((x23:Int) == 1)) (Za (GL.nil (Yd h (fun u25 h=>?_) fun u25 h=>?_))))))
 refine GC.region (Zf (Yl h fun x26 h=>?_))
 refine Zi (.bool ((x26:Int) == 0)) (Zm ?_)
 obtain ⟨J29,h,hR30⟩:=h
 refine GL.cut (α:=Bool) 4 J29 (fun b28=>[(38,.bool b28),(1,pv (some (b1,0))),(3,.bool true)]) ?_ ?_
 rcases h.em with ⟨u31,h⟩ | ⟨u31,h⟩
 refine Zk u31 (Zk u31 (Zk u31 (Zt u31 ?_)))
 exact Yj I3 true h
 refine Zu u31 Yf ?_
 obtain ⟨x32,v33,h⟩:=h
 refine Zu u31 (Yo v33) (Zu u31 (OV.ibin (v:=.bool ((x32:Int) == 1)) rfl rfl rfl) (Zn u31 ?_))
 exact Yj I3 ((x32:Int) == 1) h
 intro b28 H34 h
 replace h:=hR30 b28 H34 h
 refine Zm ?_
 obtain ⟨J36,h,hR37⟩:=h
 refine GL.cut (α:=Bool) 4 J36 (fun b35=>[(43,.bool b35),(1,pv (some (b1,0))),(3,.bool true)]) ?_ ?_
 rcases h.em with ⟨u38,h⟩ | ⟨u38,h⟩
 refine Zu u38 Yf ?_
 obtain ⟨x39,v40,h⟩:=h
 refine Zu u38 (Yo v40) (Zu u38 (OV.sbin (a:=x39) (b:=([]:Str)) (v:=.bool (x39 == ([]:Str))) rfl rfl rfl) (Zt u38 ?_))
 exact Yj I3 (x39 == ([]:Str)) h
 refine Zk u38 (Zk u38 (Zk u38 (Zn u38 ?_)))
 exact Yj I3 false h
 intro b35 H41 h
 replace h:=hR37 b35 H41 h
 refine Zm ?_
 obtain ⟨J43,h,hR44⟩:=h
 refine GL.cut (α:=Bool) 5 J43 (fun b42=>[(49,.bool b42),(1,pv (some (b1,0))),(3,.bool true)]) ?_ ?_
 rcases h.em with ⟨u45,h⟩ | ⟨u45,h⟩
 refine Zu u45 Yf ?_
 obtain ⟨x46,v47,h⟩:=h
 refine Zu u45 (Yo v47) (Zu u45 (OV.lenSl rfl rfl) (Zu u45 (OV.ibin (v:=.bool (((Sl.len x46:Int):Int) == 0)) rfl rfl rfl) (Zt u45 ?_)))
 exact Yj I3 (((Sl.len x46:Int):Int) == 0) h
 refine Zk u45 (Zk u45 (Zk u45 (Zk u45 (Zn u45 ?_))))
 exact Yj I3 false h
 intro b42 H48 h
 replace h:=hR44 b42 H48 h
 refine Za ?_
 exact Yj I3 (b42,true) h
 refine Zo (Zi (.bool ((x23:Int) == 2)) (Za (GL.nil (Yd h (fun u49 h=>?_) fun u49 h=>?_))))
 refine GC.region (Zf (Yl h fun x50 h=>?_))
 refine Zv (OV.sbin (a:=x50) (b:=([]:Str)) (v:=.bool (x50 == ([]:Str))) rfl rfl rfl) (Zm ?_)
 obtain ⟨J53,h,hR54⟩:=h
 refine GL.cut (α:=Bool) 5 J53 (fun b52=>[(60,.bool b52),(1,pv (some (b1,0))),(3,.bool true)]) ?_ ?_
 rcases h.em with ⟨u55,h⟩ | ⟨u55,h⟩
 refine Zu u55 Yf ?_
 obtain ⟨x56,v57,h⟩:=h
 refine Zu u55 (Yo v57) (Zu u55 (OV.lenSl rfl rfl) (Zu u55 (OV.ibin (v:=.bool (((Sl.len x56:Int):Int) == 0)) rfl rfl rfl) (Zt u55 ?_)))
 exact Yj I3 (((Sl.len x56:Int):Int) == 0) h
 refine Zk u55 (Zk u55 (Zk u55 (Zk u55 (Zn u55 ?_))))
 exact Yj I3 false h
 intro b52 H58 h
 replace h:=hR54 b52 H58 h
 refine Za ?_
 exact Yj I3 (b52,true) h
 refine Zo (Zi (.bool ((x23:Int) == 3)) (Za (GL.nil (Yd h (fun u59 h=>?_) fun u59 h=>?_))))
 refine Zo (Zf (Yl h fun x60 h=>?_))
 refine Zc h Qj8 ?_
 rintro _ H64 ⟨r62,r63,rfl,h⟩
 refine Zm (Yv (.int .i64 r62) rfl rfl (Yv (.bool r63) rfl rfl (Za (Za (GL.nil (GC.region (Zm (Zm ?_))))))))
 obtain ⟨J66,h,hR67⟩:=h
 refine GL.cut (α:=Bool) 4 J66 (fun b65=>[(74,.bool b65),(1,pv (some (b1,0))),(4,.int .i64 r62)]) ?_ ?_
 rcases h.em with ⟨u68,h⟩ | ⟨u68,h⟩
 refine Zu u68 Yf ?_
 obtain ⟨x69,v70,h⟩:=h
 refine Zu u68 (Yo v70) (Zu u68 (OV.ibin (v:=.bool ((x69:Int) == 0)) rfl rfl rfl) (Zt u68 ?_))
 exact Yj I3 ((x69:Int) == 0) h
 refine Zk u68 (Zk u68 (Zk u68 (Zn u68 ?_)))
 exact Yj I3 false h
 intro b65 H71 h
 replace h:=hR67 b65 H71 h
 refine Zm ?_
 obtain ⟨J73,h,hR74⟩:=h
 refine GL.cut (α:=Bool) 5 J73 (fun b72=>[(80,.bool b72),(1,pv (some (b1,0))),(4,.int .i64 r62)]) ?_ ?_
 rcases h.em with ⟨u75,h⟩ | ⟨u75,h⟩
 refine Zu u75 Yf ?_
 obtain ⟨x76,v77,h⟩:=h
 refine Zu u75 (Yo v77) (Zu u75 (OV.lenSl rfl rfl) (Zu u75 (OV.ibin (v:=.bool (((Sl.len x76:Int):Int) == 0)) rfl rfl rfl) (Zt u75 ?_)))
 exact Yj I3 (((Sl.len x76:Int):Int) == 0) h
 refine Zk u75 (Zk u75 (Zk u75 (Zk u75 (Zn u75 ?_))))
 exact Yj I3 false h
 intro b72 H78 h
 replace h:=hR74 b72 H78 h
 refine Zm (Zi (.bool (decide ((r62:Int)≤200))) (Za (Za ?_)))
 exact Yj I3 (b72,(decide ((r62:Int)≤200))) h
 refine Zo (Zi (.bool ((x23:Int) == 4)) (Za (GL.nil (Yd h (fun u79 h=>?_) fun u79 h=>?_))))
 obtain ⟨J80,h,hR83⟩:=h
 refine GC.meet (α:=Bool×Bool) J80 (fun x81=>[(2,.bool x81.1),(3,.bool x81.2),(1,pv (some (b1,0)))]) ?_ ?_
 obtain ⟨Hs84,hle85,h⟩:=h
 refine GC.any (Hs:=Hs84) (by kernel_rfl) hle85 (Zp 0 rfl Yf ?_)
 obtain ⟨x86,v87,h⟩:=h
 refine Zp 1 rfl (Yo v87) (Zp 2 rfl (OV.ibin (v:=.bool ((x86:Int) == 0)) rfl rfl rfl) (Zp 3 rfl Ym (Zp 9 rfl Yf ?_)))
 obtain ⟨x88,v89,h⟩:=h
 refine Zp 10 rfl (Yo v89) (Zp 11 rfl (OV.lenStr rfl rfl) (Zp 12 rfl (OV.ibin (v:=.bool (decide (((List.length x88:Int):Int)≤4096))) rfl rfl rfl) ?_))
 rcases h.em with ⟨u90,h⟩ | ⟨u90,h⟩
 refine Zg 4 rfl (Yt u90) Yf ?_
 obtain ⟨x91,v92,h⟩:=h
 refine Zg 5 rfl (Yt u90) (Yo v92) (Zg 6 rfl (Yt u90) (OV.lenSl rfl rfl) (Zg 7 rfl (Yt u90) (OV.ibin (v:=.bool (((Sl.len x91:Int):Int) == 0)) rfl rfl rfl) (Zp 8 rfl (OV.pickT rfl u90 rfl) (Zp 13 rfl Ya (Zp 14 rfl Ya (GA.done (by kernel_rfl) ?_))))))
 exact Yj I3 ((((Sl.len x91:Int):Int) == 0),(decide (((List.length x88:Int):Int)≤4096))) h
 refine Zj 4 rfl (Yw u90) (Zj 5 rfl (Yw u90) (Zj 6 rfl (Yw u90) (Zj 7 rfl (Yw u90) (Zp 8 rfl (OV.pickF rfl u90 rfl) (Zp 13 rfl Ya (Zp 14 rfl Ya (GA.done (by kernel_rfl) ?_)))))))
 exact Yj I3 (false,(decide (((List.length x88:Int):Int)≤4096))) h
 intro x81 H82 h
 replace h:=hR83 x81 H82 h
 exact Yj I3 (x81.1,x81.2) h
 refine Zo (Zi (.bool ((x23:Int) == 5)) (Za (GL.nil (Yd h (fun u93 h=>?_) fun u93 h=>?_))))
 obtain ⟨J94,h,hR97⟩:=h
 refine GC.meet (α:=Bool×Bool) J94 (fun x95=>[(2,.bool x95.1),(3,.bool x95.2),(1,pv (some (b1,0)))]) ?_ ?_
 obtain ⟨Hs98,hle99,h⟩:=h
 refine GC.any (Hs:=Hs98) (by kernel_rfl) hle99 (Zp 0 rfl Yf ?_)
 obtain ⟨x100,v101,h⟩:=h
 refine Zp 1 rfl (Yo v101) (Zp 2 rfl (OV.ibin (v:=.bool ((x100:Int) == 0)) rfl rfl rfl) (Zp 3 rfl Ym (Zp 14 rfl Yf ?_)))
 obtain ⟨x102,v103,h⟩:=h
 refine Zp 15 rfl (Yo v103) (Zp 16 rfl (OV.lenSl rfl rfl) (Zp 17 rfl (OV.ibin (v:=.bool (decide (((Sl.len x102:Int):Int)≤16))) rfl rfl rfl) ?_))
 rcases h.em with ⟨u104,h⟩ | ⟨u104,h⟩
 refine Zg 4 rfl (Yt u104) Yf ?_
 obtain ⟨x105,v106,h⟩:=h
 refine Zg 5 rfl (Yt u104) (Yo v106) (Zg 6 rfl (Yt u104) (OV.sbin (a:=x105) (b:=([]:Str)) (v:=.bool (x105 == ([]:Str))) rfl rfl rfl) (Zp 7 rfl (OV.pickT rfl u104 rfl) (Zp 8 rfl Ym ?_)))
 rcases h.em with ⟨u107,h⟩ | ⟨u107,h⟩
 refine Zg 9 rfl (Yt u107) Yf ?_
 obtain ⟨x108,v109,h⟩:=h
 refine Zg 10 rfl (Yt u107) (Yo v109) (Zg 11 rfl (Yt u107) (OV.lenSl rfl rfl) (Zg 12 rfl (Yt u107) (OV.ibin (v:=.bool (((Sl.len x108:Int):Int) != 1)) rfl rfl rfl) (Zp 13 rfl (OV.pickT rfl u107 rfl) (Zp 18 rfl Ya (Zp 19 rfl Ya (GA.done (by kernel_rfl) ?_))))))
 exact Yj I3 ((((Sl.len x108:Int):Int) != 1),(decide (((Sl.len x102:Int):Int)≤16))) h
 refine Zj 9 rfl (Yw u107) (Zj 10 rfl (Yw u107) (Zj 11 rfl (Yw u107) (Zj 12 rfl (Yw u107) (Zp 13 rfl (OV.pickF rfl u107 rfl) (Zp 18 rfl Ya (Zp 19 rfl Ya (GA.done (by kernel_rfl) ?_)))))))
 exact Yj I3 (false,(decide (((Sl.len x102:Int):Int)≤16))) h
 refine Zj 4 rfl (Yw u104) (Zj 5 rfl (Yw u104) (Zj 6 rfl (Yw u104) (Zp 7 rfl (OV.pickF rfl u104 rfl) (Zp 8 rfl Ym (Zj 9 rfl (Yw rfl) (Zj 10 rfl (Yw rfl) (Zj 11 rfl (Yw rfl) (Zj 12 rfl (Yw rfl) (Zp 13 rfl (OV.pickF rfl rfl rfl) (Zp 18 rfl Ya (Zp 19 rfl Ya (GA.done (by kernel_rfl) ?_))))))))))))
 exact Yj I3 (false,(decide (((Sl.len x102:Int):Int)≤16))) h
 intro x95 H96 h
 replace h:=hR97 x95 H96 h
 exact Yj I3 (x95.1,x95.2) h
 refine Zo (Zi (.bool ((x23:Int) == 6)) (Za (GL.nil (Yd h (fun u110 h=>?_) fun u110 h=>?_))))
 refine Zo (Zf (Yl h fun x111 h=>?_))
 refine Zc h Qe6 ?_
 rintro _ H116 ⟨r113,r114,r115,rfl,h⟩
 refine Zm (Yv (sv r113) rfl rfl (Yv (sv r114) rfl rfl (Yv (.bool r115) rfl rfl (Za (Za (Za (GL.nil ?_)))))))
 obtain ⟨J117,h,hR120⟩:=h
 refine GC.meet (α:=Bool×Bool) J117 (fun x118=>[(2,.bool x118.1),(3,.bool x118.2),(1,pv (some (b1,0)))]) ?_ ?_
 obtain ⟨Hs121,hle122,h⟩:=h
 refine GC.any (Hs:=Hs121) (by kernel_rfl) hle122 (Zp 0 rfl Yf ?_)
 obtain ⟨x123,v124,h⟩:=h
 refine Zp 1 rfl (Yo v124) (Zp 2 rfl (OV.ibin (v:=.bool ((x123:Int) == 0)) rfl rfl rfl) (Zp 3 rfl Ym (Zp 28 rfl Yf ?_)))
 obtain ⟨x125,v126,h⟩:=h
 refine Zp 29 rfl (Yo v126) (Zp 30 rfl (OV.lenSl rfl rfl) (Zp 31 rfl (OV.ibin (v:=.bool (decide (((Sl.len x125:Int):Int)≤8))) rfl rfl rfl) ?_))
 rcases h.em with ⟨u127,h⟩ | ⟨u127,h⟩
 refine Zg 4 rfl (Yt u127) Ym (GA.eff 5 rfl (by kernel_rfl) (GL.call h (Yt u127) rfl Qiv (vs:=[sv r113]) rfl ?_))
 rintro _ H130 ⟨r129,rfl,h⟩
 obtain ⟨hle128,h⟩:=h
 refine GA.back hle128 (Zp 6 rfl (OV.pickT rfl u127 rfl) (Zp 7 rfl Ym ?_))
 rcases h.em with ⟨u131,h⟩ | ⟨u131,h⟩
 refine Zg 8 rfl (Yt u131) Ym (Zg 9 rfl (Yt u131) Ym ?_)
 rcases h.em with ⟨u132,h⟩ | ⟨u132,h⟩
 refine Zg 10 rfl (Yt u132) Ym (GA.eff 11 rfl (by kernel_rfl) (GL.call h (Yt u132) rfl Qiv (vs:=[sv r114]) rfl ?_))
 rintro _ H135 ⟨r134,rfl,h⟩
 obtain ⟨hle133,h⟩:=h
 refine GA.back hle133 (Zg 12 rfl (Yt u131) (OV.pickT rfl u132 rfl) (Zg 13 rfl (Yt u131) Ym ?_))
 rcases h.em with ⟨u136,h⟩ | ⟨u136,h⟩
 refine Zj 14 rfl (Yw u136) (Zj 15 rfl (Yw u136) (Zj 16 rfl (Yw u136) (Zj 17 rfl ⟨_,rfl,.inr rfl⟩ (Zj 18 rfl ⟨_,rfl,.inr rfl⟩ (Zj 19 rfl ⟨_,rfl,.inr rfl⟩ (Zj 20 rfl (Yw u136) (Zj 21 rfl (Yw u136) (Zj 22 rfl ⟨_,rfl,.inr rfl⟩ (Zj 23 rfl ⟨_,rfl,.inr rfl⟩ (Zj 24 rfl ⟨_,rfl,.inr rfl⟩ (Zj 25 rfl (Yw u136) (Zg 26 rfl (Yt u131) (OV.pickT rfl u136 rfl) (Zp 27 rfl (OV.pickT rfl u131 rfl) (Zp 32 rfl Ya (Zp 33 rfl Ya (GA.done (by kernel_rfl) ?_))))))))))))))))
 exact Yj I3 (true,(decide (((Sl.len x125:Int):Int)≤8))) h
 refine Zg 14 rfl (Yt u136) Ym (Zg 15 rfl (Yt u136) (OV.not rfl) (Zg 16 rfl (Yt u136) Ym ?_))
 rcases h.em with ⟨u137,h⟩ | ⟨u137,h⟩
 refine Zg 17 rfl (Yt u137) Yf ?_
 obtain ⟨x138,v139,h⟩:=h
 refine Zg 18 rfl (Yt u137) (Yo v139) (Zg 19 rfl (Yt u137) (OV.sbin (a:=x138) (b:=([116,114,117,101]:Str)) (v:=.bool (!(x138 == ([116,114,117,101]:Str)))) rfl rfl rfl) (Zg 20 rfl (Yt u136) (OV.pickT rfl u137 rfl) (Zg 21 rfl (Yt u136) Ym ?_)))
 rcases h.em with ⟨u140,h⟩ | ⟨u140,h⟩
 refine Zg 22 rfl (Yt u140) Yf ?_
 obtain ⟨x141,v142,h⟩:=h
 refine Zg 23 rfl (Yt u140) (Yo v142) (Zg 24 rfl (Yt u140) (OV.sbin (a:=x141) (b:=([102,97,108,115,101]:Str)) (v:=.bool (!(x141 == ([102,97,108,115,101]:Str)))) rfl rfl rfl) (Zg 25 rfl (Yt u136) (OV.pickT rfl u140 rfl) (Zg 26 rfl (Yt u131) (OV.pickF rfl u136 rfl) (Zp 27 rfl (OV.pickT rfl u131 rfl) (Zp 32 rfl Ya (Zp 33 rfl Ya (GA.done (by kernel_rfl) ?_)))))))
 exact Yj I3 ((!(x141 == ([102,97,108,115,101]:Str))),(decide (((Sl.len x125:Int):Int)≤8))) h
 refine Zj 22 rfl (Yw u140) (Zj 23 rfl (Yw u140) (Zj 24 rfl (Yw u140) (Zg 25 rfl (Yt u136) (OV.pickF rfl u140 rfl) (Zg 26 rfl (Yt u131) (OV.pickF rfl u136 rfl) (Zp 27 rfl (OV.pickT rfl u131 rfl) (Zp 32 rfl Ya (Zp 33 rfl Ya (GA.done (by kernel_rfl) ?_))))))))
 exact Yj I3 (false,(decide (((Sl.len x125:Int):Int)≤8))) h
 refine Zj 17 rfl (Yw u137) (Zj 18 rfl (Yw u137) (Zj 19 rfl (Yw u137) (Zg 20 rfl (Yt u136) (OV.pickF rfl u137 rfl) (Zg 21 rfl (Yt u136) Ym (Zj 22 rfl (Yw rfl) (Zj 23 rfl (Yw rfl) (Zj 24 rfl (Yw rfl) (Zg 25 rfl (Yt u136) (OV.pickF rfl rfl rfl) (Zg 26 rfl (Yt u131) (OV.pickF rfl u136 rfl) (Zp 27 rfl (OV.pickT rfl u131 rfl) (Zp 32 rfl Ya (Zp 33 rfl Ya (GA.done (by kernel_rfl) ?_)))))))))))))
 exact Yj I3 (false,(decide (((Sl.len x125:Int):Int)≤8))) h
 refine Zj 10 rfl (Yw u132) (Zj 11 rfl (Yw u132) (Zg 12 rfl (Yt u131) (OV.pickF rfl u132 rfl) (Zg 13 rfl (Yt u131) Ym (Zg 14 rfl (Yt rfl) Ym (Zg 15 rfl (Yt rfl) (OV.not rfl) (Zg 16 rfl (Yt rfl) Ym ?_))))))
 rcases h.em with ⟨u143,h⟩ | ⟨u143,h⟩
 refine Zg 17 rfl (Yt u143) Yf ?_
 obtain ⟨x144,v145,h⟩:=h
 refine Zg 18 rfl (Yt u143) (Yo v145) (Zg 19 rfl (Yt u143) (OV.sbin (a:=x144) (b:=([116,114,117,101]:Str)) (v:=.bool (!(x144 == ([116,114,117,101]:Str)))) rfl rfl rfl) (Zg 20 rfl (Yt rfl) (OV.pickT rfl u143 rfl) (Zg 21 rfl (Yt rfl) Ym ?_)))
 rcases h.em with ⟨u146,h⟩ | ⟨u146,h⟩
 refine Zg 22 rfl (Yt u146) Yf ?_
 obtain ⟨x147,v148,h⟩:=h
 refine Zg 23 rfl (Yt u146) (Yo v148) (Zg 24 rfl (Yt u146) (OV.sbin (a:=x147) (b:=([102,97,108,115,101]:Str)) (v:=.bool (!(x147 == ([102,97,108,115,101]:Str)))) rfl rfl rfl) (Zg 25 rfl (Yt rfl) (OV.pickT rfl u146 rfl) (Zg 26 rfl (Yt u131) (OV.pickF rfl rfl rfl) (Zp 27 rfl (OV.pickT rfl u131 rfl) (Zp 32 rfl Ya (Zp 33 rfl Ya (GA.done (by kernel_rfl) ?_)))))))
 exact Yj I3 ((!(x147 == ([102,97,108,115,101]:Str))),(decide (((Sl.len x125:Int):Int)≤8))) h
 refine Zj 22 rfl (Yw u146) (Zj 23 rfl (Yw u146) (Zj 24 rfl (Yw u146) (Zg 25 rfl (Yt rfl) (OV.pickF rfl u146 rfl) (Zg 26 rfl (Yt u131) (OV.pickF rfl rfl rfl) (Zp 27 rfl (OV.pickT rfl u131 rfl) (Zp 32 rfl Ya (Zp 33 rfl Ya (GA.done (by kernel_rfl) ?_))))))))
 exact Yj I3 (false,(decide (((Sl.len x125:Int):Int)≤8))) h
 refine Zj 17 rfl (Yw u143) (Zj 18 rfl (Yw u143) (Zj 19 rfl (Yw u143) (Zg 20 rfl (Yt rfl) (OV.pickF rfl u143 rfl) (Zg 21 rfl (Yt rfl) Ym (Zj 22 rfl (Yw rfl) (Zj 23 rfl (Yw rfl) (Zj 24 rfl (Yw rfl) (Zg 25 rfl (Yt rfl) (OV.pickF rfl rfl rfl) (Zg 26 rfl (Yt u131) (OV.pickF rfl rfl rfl) (Zp 27 rfl (OV.pickT rfl u131 rfl) (Zp 32 rfl Ya (Zp 33 rfl Ya (GA.done (by kernel_rfl) ?_)))))))))))))
 exact Yj I3 (false,(decide (((Sl.len x125:Int):Int)≤8))) h
 refine Zj 8 rfl (Yw u131) (Zj 9 rfl (Yw u131) (Zj 10 rfl ⟨_,rfl,.inr rfl⟩ (Zj 11 rfl ⟨_,rfl,.inr rfl⟩ (Zj 12 rfl (Yw u131) (Zj 13 rfl (Yw u131) (Zj 14 rfl ⟨_,rfl,.inr rfl⟩ (Zj 15 rfl ⟨_,rfl,.inr rfl⟩ (Zj 16 rfl ⟨_,rfl,.inr rfl⟩ (Zj 17 rfl ⟨_,rfl,.inr rfl⟩ (Zj 18 rfl ⟨_,rfl,.inr rfl⟩ (Zj 19 rfl ⟨_,rfl,.inr rfl⟩ (Zj 20 rfl ⟨_,rfl,.inr rfl⟩ (Zj 21 rfl ⟨_,rfl,.inr rfl⟩ (Zj 22 rfl ⟨_,rfl,.inr rfl⟩ (Zj 23 rfl ⟨_,rfl,.inr rfl⟩ (Zj 24 rfl ⟨_,rfl,.inr rfl⟩ (Zj 25 rfl ⟨_,rfl,.inr rfl⟩ (Zj 26 rfl (Yw u131) (Zp 27 rfl (OV.pickF rfl u131 rfl) (Zp 32 rfl Ya (Zp 33 rfl Ya (GA.done (by kernel_rfl) ?_))))))))))))))))))))))
 exact Yj I3 (false,(decide (((Sl.len x125:Int):Int)≤8))) h
 refine Zj 4 rfl (Yw u127) (Zj 5 rfl (Yw u127) (Zp 6 rfl (OV.pickF rfl u127 rfl) (Zp 7 rfl Ym (Zj 8 rfl (Yw rfl) (Zj 9 rfl (Yw rfl) (Zj 10 rfl ⟨_,rfl,.inr rfl⟩ (Zj 11 rfl ⟨_,rfl,.inr rfl⟩ (Zj 12 rfl (Yw rfl) (Zj 13 rfl (Yw rfl) (Zj 14 rfl ⟨_,rfl,.inr rfl⟩ (Zj 15 rfl ⟨_,rfl,.inr rfl⟩ (Zj 16 rfl ⟨_,rfl,.inr rfl⟩ (Zj 17 rfl ⟨_,rfl,.inr rfl⟩ (Zj 18 rfl ⟨_,rfl,.inr rfl⟩ (Zj 19 rfl ⟨_,rfl,.inr rfl⟩ (Zj 20 rfl ⟨_,rfl,.inr rfl⟩ (Zj 21 rfl ⟨_,rfl,.inr rfl⟩ (Zj 22 rfl ⟨_,rfl,.inr rfl⟩ (Zj 23 rfl ⟨_,rfl,.inr rfl⟩ (Zj 24 rfl ⟨_,rfl,.inr rfl⟩ (Zj 25 rfl ⟨_,rfl,.inr rfl⟩ (Zj 26 rfl (Yw rfl) (Zp 27 rfl (OV.pickF rfl rfl rfl) (Zp 32 rfl Ya (Zp 33 rfl Ya (GA.done (by kernel_rfl) ?_))))))))))))))))))))))))))
 exact Yj I3 (false,(decide (((Sl.len x125:Int):Int)≤8))) h
 intro x118 H119 h
 replace h:=hR120 x118 H119 h
 exact Yj I3 (x118.1,x118.2) h
 refine GC.region (Za ?_)
 exact Yj I3 (false,true) h
 intro x20 H21 h
 replace h:=hR22 x20 H21 h
 refine GC.seq (Zo (Zf (Yl h fun x149 h=>?_)))
 refine Zq (Zm (GL.nil (GC.block (Yp h (fun x151=>[(2,.bool x151.1),(3,.bool x151.2.1),(162,.int .i64 x151.2.2),(160,slv x149),(161,.int .i64 (Sl.len x149:Int))]) ?_))))
 intro x151 H153 J152 h
 refine Zo (Zi (.bool (decide ((x151.2.2:Int) < (Sl.len x149:Int)))) (GL.nil (GC.seq (Yd h (fun u154 h=>?_) fun u154 h=>?_))))
 refine GC.skip (GC.seq (GC.block (Zo (Yx h fun p155 h=>?_))))
 obtain ⟨x160,v161,h⟩:=h
 refine Zv (OV.loadT rfl rfl rfl v161) (GL.alloc (cs:=Qm.c Qm.zero) h trivial rfl rfl rfl ?_)
 intro b162 H163 h
 refine GL.storeT (p:=(b162,0)) (vs:=Qm.c x160) h trivial rfl rfl rfl rfl ?_
 intro H164 h
 refine GL.nil (Zo ?_)
 obtain ⟨x165,v166,h⟩:=h
 refine Zv (OV.loadT rfl rfl rfl v166) (Zc h QeN ?_)
 rintro _ H169 ⟨r167,r168,rfl,h⟩
 refine Zm (Yv (.bool r167) rfl rfl (Yv (.bool r168) rfl rfl (Za (Za (GL.nil (GC.region (Zm (Zm (GL.cut0 2 [(174,.bool (x151.1 && r167)),(3,.bool x151.2.1),(12,.bool r168),(160,slv x149),(161,.int .i64 (Sl.len x149:Int)),(162,.int .i64 x151.2.2)] ?_ ?_)))))))))
 rcases Bool.eq_false_or_eq_true x151.1 with u170 | u170
 refine Zu u170 Ym (Zt u170 ?_)
 exact GL.jump0 I3 () rfl ⟨(by rw [u170]; rfl),rfl,rfl,rfl,rfl,rfl,trivial⟩
 refine Zk u170 (Zn u170 ?_)
 exact GL.jump0 I3 () rfl ⟨(by rw [u170]; rfl),rfl,rfl,rfl,rfl,rfl,trivial⟩
 refine Zm (Zm (GL.cut0 2 [(178,.bool (x151.2.1 && r168)),(160,slv x149),(161,.int .i64 (Sl.len x149:Int)),(162,.int .i64 x151.2.2),(174,.bool (x151.1 && r167))] ?_ ?_))
 rcases Bool.eq_false_or_eq_true x151.2.1 with u171 | u171
 refine Zu u171 Ym (Zt u171 ?_)
 exact GL.jump0 I3 () rfl ⟨(by rw [u171]; rfl),rfl,rfl,rfl,rfl,trivial⟩
 refine Zk u171 (Zn u171 ?_)
 exact GL.jump0 I3 () rfl ⟨(by rw [u171]; rfl),rfl,rfl,rfl,rfl,trivial⟩
 refine Za (Za (GL.nil_to I3 (GC.region (Zi (.int .i64 (w .i64 (x151.2.2+1))) (Zm ?_)))))
 exact Yj I3 ((x151.1 && r167),(x151.2.1 && r168),(w .i64 (x151.2.2+1))) h
 refine GC.exit_to I3 (Zo (Zm (Zm (Za (Za (GL.nil ?_))))))
 exact Y2 I3 ⟨x151.1,x151.2.1,rfl,h⟩
def Qhl (C:Ctx) (p_s:Str) (K:Int→Bool→Heap→Prop) (H:Heap):Prop:=
 QcK C p_s [45] (fun r1 H2=>
 jn (α:=Bool) (fun b3 H9=>
 jn (α:=Bool) (fun b10 H18=>
 ift b10
 (K 0 false H18)
 (K (List.length r1:Int) true H18))
 (fun J11=>ift b3
 (J11 true H9)
 (ixs r1 0 fun c14=>
 J11 ((((c14.toNat:Int):Int) == 48) && (!(p_s == ([48]:Str)))) H9)))
 (fun J4=>ift (r1 == ([]:Str))
 (J4 true H2)
 (Qbj C r1 [48,49,50,51,52,53,54,55,56,57] (fun r7 H8=>
 J4 (!(r7 == ([]:Str))) H8) H2))) H
theorem Qjy (C p_s K H) (h:Qhl C p_s K H):Qe3 C p_s K H:=by
 refine Ye Tryz.func255 rfl Tryz.ntmps255 [(0,sv p_s)] (Zo (Za (Za (GL.nil (Zo (Zm (Zc h Qg4 ?_)))))))
 rintro _ H2 ⟨r1,rfl,h⟩
 refine Za (GL.nil (GC.seq (Zo (Zm (Zv (OV.sbin (a:=r1) (b:=([]:Str)) (v:=.bool (r1 == ([]:Str))) rfl rfl rfl) (Zm ?_))))))
 obtain ⟨J4,h,hR5⟩:=h
 refine GL.cut (α:=Bool) 4 J4 (fun b3=>[(13,.bool b3),(0,sv p_s),(4,sv r1)]) ?_ ?_
 rcases h.em with ⟨u6,h⟩ | ⟨u6,h⟩
 refine Zk u6 (Zk u6 (Zk u6 (Zt u6 ?_)))
 exact Yj I3 true h
 refine Zu u6 Ym (GL.call h (Yt u6) rfl QjZ (vs:=[sv r1,sv [48,49,50,51,52,53,54,55,56,57]]) rfl ?_)
 rintro _ H8 ⟨r7,rfl,h⟩
 refine Zu u6 (OV.sbin (a:=r7) (b:=([]:Str)) (v:=.bool (!(r7 == ([]:Str)))) rfl rfl rfl) (Zn u6 ?_)
 exact Yj I3 (!(r7 == ([]:Str))) h
 intro b3 H9 h
 replace h:=hR5 b3 H9 h
 refine Zm ?_
 obtain ⟨J11,h,hR12⟩:=h
 refine GL.cut (α:=Bool) 8 J11 (fun b10=>[(22,.bool b10),(4,sv r1)]) ?_ ?_
 rcases h.em with ⟨u13,h⟩ | ⟨u13,h⟩
 refine Zk u13 (Zk u13 (Zk u13 (Zk u13 (GL.skip ⟨_,rfl,.inr rfl⟩ rfl (GL.skip ⟨_,rfl,.inr rfl⟩ rfl (Zk u13 (Zt u13 ?_)))))))
 exact Yj I3 true h
 refine Zu u13 Ym ?_
 obtain ⟨c14,ha15,hb16,h⟩:=h
 refine Zu u13 (OV.indexStr rfl rfl rfl ha15 hb16) (Zu u13 (OV.ibin (v:=.bool (((c14.toNat:Int):Int) == 48)) rfl rfl rfl) (Zu u13 Ym (GL.cut0 3 [(21,.bool ((((c14.toNat:Int):Int) == 48) && (!(p_s == ([48]:Str))))),(4,sv r1),(14,.bool b3)] ?_ ?_)))
 rcases Zb (((c14.toNat:Int):Int) == 48) with u17 | u17
 refine Zu u17 Ym (Zu u17 (OV.sbin (a:=p_s) (b:=([48]:Str)) (v:=.bool (!(p_s == ([48]:Str)))) rfl rfl rfl) (Zu u13 (OV.pickT rfl u17 rfl) ?_))
 exact GL.jump0 I3 () rfl ⟨(by rw [u17]; rfl),rfl,rfl,trivial⟩
 refine Zk u17 (Zk u17 (Zu u13 (OV.pickF rfl u17 rfl) ?_))
 exact GL.jump0 I3 () rfl ⟨(by rw [u17]; rfl),rfl,rfl,trivial⟩
 refine Zn u13 ?_
 exact Yj I3 ((((c14.toNat:Int):Int) == 48) && (!(p_s == ([48]:Str)))) h
 intro b10 H18 h
 replace h:=hR12 b10 H18 h
 refine GL.nil (Yd h (fun u19 h=>?_) fun u19 h=>?_)
 refine Zo (Za (Za (GL.nil ?_)))
 exact Y2 I3 ⟨0,false,rfl,h⟩
 refine GC.skip (Zo (Zm (Zr (Za (Za (GL.nil ?_))))))
 exact Y2 I3 ⟨(List.length r1:Int),true,rfl,h⟩
def QiD (C:Ctx) (p_s:Str) (K:Bool→Heap→Prop) (H:Heap):Prop:=
 jn (α:=Bool) (fun b2 H9=>
 jn (α:=Bool) (fun b10 H17=>
 ift b10
 (K false H17)
 (lp (α:=Int) 0 H17 (fun x19 J20 H21=>
 ift (decide ((x19:Int) < (List.length p_s:Int)))
 (ixs p_s x19 fun c23=>
 ift (!(((((decide (((c23.toNat:Int):Int) ≥ 97)) && (decide (((c23.toNat:Int):Int)≤122))) || ((decide (((c23.toNat:Int):Int) ≥ 65)) && (decide (((c23.toNat:Int):Int)≤90)))) || ((decide (((c23.toNat:Int):Int) ≥ 48)) && (decide (((c23.toNat:Int):Int)≤57)))) || (((c23.toNat:Int):Int) == 95)))
 (K false H21)
 (J20 (w .i64 (x19+1)) H21))
 (K true H21))))
 (fun J11=>ift b2
 (J11 true H9)
 (ixs p_s 0 fun c14=>
 J11 (decide (((c14.toNat:Int):Int) > 122)) H9)))
 (fun J3=>ift ((p_s == ([]:Str)) || (decide (((List.length p_s:Int):Int) > 32)))
 (J3 true H)
 (ixs p_s 0 fun c6=>
 J3 (decide (((c6.toNat:Int):Int) < 97)) H))
theorem Qlk (C p_s K H) (h:QiD C p_s K H):Qc4 C p_s K H:=by
 refine Ye Tryz.func256 rfl Tryz.ntmps256 [(0,sv p_s)] (Zo (Za (GL.nil (GC.seq (Zo (Zm (Zv (OV.sbin (a:=p_s) (b:=([]:Str)) (v:=.bool (p_s == ([]:Str))) rfl rfl rfl) (Zm (GL.cut0 4 [(11,.bool ((p_s == ([]:Str)) || (decide (((List.length p_s:Int):Int) > 32)))),(0,sv p_s)] ?_ ?_)))))))))
 rcases Zb (p_s == ([]:Str)) with hc1 | hc1
 refine Zk hc1 (Zk hc1 (Zk hc1 (Zt hc1 ?_)))
 exact GL.jump0 I3 () rfl ⟨(by rw [hc1]; rfl),rfl,trivial⟩
 refine Zu hc1 Ym (Zu hc1 (OV.lenStr rfl rfl) (Zu hc1 (OV.ibin (v:=.bool (decide (((List.length p_s:Int):Int) > 32))) rfl rfl rfl) (Zn hc1 ?_)))
 exact GL.jump0 I3 () rfl ⟨(by rw [hc1]; rfl),rfl,trivial⟩
 refine Zm ?_
 obtain ⟨J3,h,hR4⟩:=h
 refine GL.cut (α:=Bool) 4 J3 (fun b2=>[(16,.bool b2),(0,sv p_s)]) ?_ ?_
 rcases h.em with ⟨hc5,h⟩ | ⟨hc5,h⟩
 refine Zk hc5 (Zk hc5 (Zk hc5 (Zt hc5 ?_)))
 exact Yj I3 true h
 refine Zu hc5 Ym ?_
 obtain ⟨c6,ha7,hb8,h⟩:=h
 refine Zu hc5 (OV.indexStr rfl rfl rfl ha7 hb8) (Zu hc5 (OV.ibin (v:=.bool (decide (((c6.toNat:Int):Int) < 97))) rfl rfl rfl) (Zn hc5 ?_))
 exact Yj I3 (decide (((c6.toNat:Int):Int) < 97)) h
 intro b2 H9 h
 replace h:=hR4 b2 H9 h
 refine Zm ?_
 obtain ⟨J11,h,hR12⟩:=h
 refine GL.cut (α:=Bool) 4 J11 (fun b10=>[(21,.bool b10),(0,sv p_s)]) ?_ ?_
 rcases h.em with ⟨hc13,h⟩ | ⟨hc13,h⟩
 refine Zk hc13 (Zk hc13 (Zk hc13 (Zt hc13 ?_)))
 exact Yj I3 true h
 refine Zu hc13 Ym ?_
 obtain ⟨c14,ha15,hb16,h⟩:=h
 refine Zu hc13 (OV.indexStr rfl rfl rfl ha15 hb16) (Zu hc13 (OV.ibin (v:=.bool (decide (((c14.toNat:Int):Int) > 122))) rfl rfl rfl) (Zn hc13 ?_))
 exact Yj I3 (decide (((c14.toNat:Int):Int) > 122)) h
 intro b10 H17 h
 replace h:=hR12 b10 H17 h
 refine GL.nil (Yd h (fun hc18 h=>?_) fun hc18 h=>?_)
 refine Zo (Za (GL.nil ?_))
 exact Y1 I3 ⟨false,rfl,h⟩
 refine GC.skip (GC.seq (Zo (Zm (Zr (Zm (GL.nil (GC.block (Yp h (fun x19=>[(24,.int .i64 x19),(0,sv p_s),(23,.int .i64 (List.length p_s:Int))]) ?_))))))))
 intro x19 H21 J20 h
 refine Zo (Zi (.bool (decide ((x19:Int) < (List.length p_s:Int)))) (GL.nil (GC.seq (Yd h (fun hc22 h=>?_) fun hc22 h=>?_))))
 refine GC.skip (GC.seq (GC.block (Zo (Zm (Za (GL.nil (Zo (Zm (Zm (Ys h fun c23 h=>?_))))))))))
 refine Za (GL.nil (Zo (Zm (Zi (.bool (decide (((c23.toNat:Int):Int) ≥ 97))) (Zm (GL.cut0 3 [(35,.bool ((decide (((c23.toNat:Int):Int) ≥ 97)) && (decide (((c23.toNat:Int):Int)≤122)))),(0,sv p_s),(4,.int .u8 (c23.toNat:Int)),(23,.int .i64 (List.length p_s:Int)),(24,.int .i64 x19)] ?_ ?_))))))
 rcases Zb (decide (((c23.toNat:Int):Int) ≥ 97)) with hc26 | hc26
 refine Zu hc26 Ym (Zu hc26 (OV.ibin (v:=.bool (decide (((c23.toNat:Int):Int)≤122))) rfl rfl rfl) (Zt hc26 ?_))
 exact GL.jump0 I3 () rfl ⟨(by rw [hc26]; rfl),rfl,rfl,rfl,rfl,trivial⟩
 refine Zk hc26 (Zk hc26 (Zn hc26 ?_))
 exact GL.jump0 I3 () rfl ⟨(by rw [hc26]; rfl),rfl,rfl,rfl,rfl,trivial⟩
 refine Zm (GL.cut0 7 [(43,.bool (((decide (((c23.toNat:Int):Int) ≥ 97)) && (decide (((c23.toNat:Int):Int)≤122))) || ((decide (((c23.toNat:Int):Int) ≥ 65)) && (decide (((c23.toNat:Int):Int)≤90))))),(0,sv p_s),(4,.int .u8 (c23.toNat:Int)),(23,.int .i64 (List.length p_s:Int)),(24,.int .i64 x19)] ?_ ?_)
 rcases Zb ((decide (((c23.toNat:Int):Int) ≥ 97)) && (decide (((c23.toNat:Int):Int)≤122))) with hc27 | hc27
 refine Zk hc27 (Zk hc27 (Zk hc27 (GL.skip ⟨_,rfl,.inr rfl⟩ rfl (GL.skip ⟨_,rfl,.inr rfl⟩ rfl (Zk hc27 (Zt hc27 ?_))))))
 exact GL.jump0 I3 () rfl ⟨(by rw [hc27]; rfl),rfl,rfl,rfl,rfl,trivial⟩
 refine Zu hc27 Ym (Zu hc27 (OV.ibin (v:=.bool (decide (((c23.toNat:Int):Int) ≥ 65))) rfl rfl rfl) (Zu hc27 Ym (GL.cut0 3 [(42,.bool ((decide (((c23.toNat:Int):Int) ≥ 65)) && (decide (((c23.toNat:Int):Int)≤90)))),(0,sv p_s),(4,.int .u8 (c23.toNat:Int)),(23,.int .i64 (List.length p_s:Int)),(24,.int .i64 x19),(36,.bool ((decide (((c23.toNat:Int):Int) ≥ 97)) && (decide (((c23.toNat:Int):Int)≤122))))] ?_ ?_)))
 rcases Zb (decide (((c23.toNat:Int):Int) ≥ 65)) with hc28 | hc28
 refine Zu hc28 Ym (Zu hc28 (OV.ibin (v:=.bool (decide (((c23.toNat:Int):Int)≤90))) rfl rfl rfl) (Zu hc27 (OV.pickT rfl hc28 rfl) ?_))
 exact GL.jump0 I3 () rfl ⟨(by rw [hc28]; rfl),rfl,rfl,rfl,rfl,rfl,trivial⟩
 refine Zk hc28 (Zk hc28 (Zu hc27 (OV.pickF rfl hc28 rfl) ?_))
 exact GL.jump0 I3 () rfl ⟨(by rw [hc28]; rfl),rfl,rfl,rfl,rfl,rfl,trivial⟩
 refine Zn hc27 ?_
 exact GL.jump0 I3 () rfl ⟨(by rw [hc27]; rfl),rfl,rfl,rfl,rfl,trivial⟩
 refine Zm (GL.cut0 7 [(51,.bool ((((decide (((c23.toNat:Int):Int) ≥ 97)) && (decide (((c23.toNat:Int):Int)≤122))) || ((decide (((c23.toNat:Int):Int) ≥ 65)) && (decide (((c23.toNat:Int):Int)≤90)))) || ((decide (((c23.toNat:Int):Int) ≥ 48)) && (decide (((c23.toNat:Int):Int)≤57))))),(0,sv p_s),(4,.int .u8 (c23.toNat:Int)),(23,.int .i64 (List.length p_s:Int)),(24,.int .i64 x19)] ?_ ?_)
 rcases Zb (((decide (((c23.toNat:Int):Int) ≥ 97)) && (decide (((c23.toNat:Int):Int)≤122))) || ((decide (((c23.toNat:Int):Int) ≥ 65)) && (decide (((c23.toNat:Int):Int)≤90)))) with hc29 | hc29
 refine Zk hc29 (Zk hc29 (Zk hc29 (GL.skip ⟨_,rfl,.inr rfl⟩ rfl (GL.skip ⟨_,rfl,.inr rfl⟩ rfl (Zk hc29 (Zt hc29 ?_))))))
 exact GL.jump0 I3 () rfl ⟨(by rw [hc29]; rfl),rfl,rfl,rfl,rfl,trivial⟩
 refine Zu hc29 Ym (Zu hc29 (OV.ibin (v:=.bool (decide (((c23.toNat:Int):Int) ≥ 48))) rfl rfl rfl) (Zu hc29 Ym (GL.cut0 3 [(50,.bool ((decide (((c23.toNat:Int):Int) ≥ 48)) && (decide (((c23.toNat:Int):Int)≤57)))),(0,sv p_s),(4,.int .u8 (c23.toNat:Int)),(23,.int .i64 (List.length p_s:Int)),(24,.int .i64 x19),(44,.bool (((decide (((c23.toNat:Int):Int) ≥ 97)) && (decide (((c23.toNat:Int):Int)≤122))) || ((decide (((c23.toNat:Int):Int) ≥ 65)) && (decide (((c23.toNat:Int):Int)≤90)))))] ?_ ?_)))
 rcases Zb (decide (((c23.toNat:Int):Int) ≥ 48)) with hc30 | hc30
 refine Zu hc30 Ym (Zu hc30 (OV.ibin (v:=.bool (decide (((c23.toNat:Int):Int)≤57))) rfl rfl rfl) (Zu hc29 (OV.pickT rfl hc30 rfl) ?_))
 exact GL.jump0 I3 () rfl ⟨(by rw [hc30]; rfl),rfl,rfl,rfl,rfl,rfl,trivial⟩
 refine Zk hc30 (Zk hc30 (Zu hc29 (OV.pickF rfl hc30 rfl) ?_))
 exact GL.jump0 I3 () rfl ⟨(by rw [hc30]; rfl),rfl,rfl,rfl,rfl,rfl,trivial⟩
 refine Zn hc29 ?_
 exact GL.jump0 I3 () rfl ⟨(by rw [hc29]; rfl),rfl,rfl,rfl,rfl,trivial⟩
 refine Zm (GL.cut0 3 [(55,.bool (((((decide (((c23.toNat:Int):Int) ≥ 97)) && (decide (((c23.toNat:Int):Int)≤122))) || ((decide (((c23.toNat:Int):Int) ≥ 65)) && (decide (((c23.toNat:Int):Int)≤90)))) || ((decide (((c23.toNat:Int):Int) ≥ 48)) && (decide (((c23.toNat:Int):Int)≤57)))) || (((c23.toNat:Int):Int) == 95))),(0,sv p_s),(23,.int .i64 (List.length p_s:Int)),(24,.int .i64 x19)] ?_ ?_)
 rcases Zb ((((decide (((c23.toNat:Int):Int) ≥ 97)) && (decide (((c23.toNat:Int):Int)≤122))) || ((decide (((c23.toNat:Int):Int) ≥ 65)) && (decide (((c23.toNat:Int):Int)≤90)))) || ((decide (((c23.toNat:Int):Int) ≥ 48)) && (decide (((c23.toNat:Int):Int)≤57)))) with hc31 | hc31
 refine Zk hc31 (Zk hc31 (Zt hc31 ?_))
 exact GL.jump0 I3 () rfl ⟨(by rw [hc31]; rfl),rfl,rfl,rfl,trivial⟩
 refine Zu hc31 Ym (Zu hc31 (OV.ibin (v:=.bool (((c23.toNat:Int):Int) == 95)) rfl rfl rfl) (Zn hc31 ?_))
 exact GL.jump0 I3 () rfl ⟨(by rw [hc31]; rfl),rfl,rfl,rfl,trivial⟩
 refine Zv (OV.not rfl) (GL.nil (Yd h (fun hc32 h=>?_) fun hc32 h=>?_))
 refine Zo (Za (GL.nil ?_))
 exact Y1 I3 ⟨false,rfl,h⟩
 refine GC.skip_to I3 (GC.region (Zi (.int .i64 (w .i64 (x19+1))) (Zm ?_)))
 exact Yj I3 (w .i64 (x19+1)) h
 refine GC.exit_to I3 (Zo (Za (GL.nil ?_)))
 exact Y1 I3 ⟨true,rfl,h⟩
def QdS (C:Ctx) (p_s:Str) (p_prefix:Str) (K:Str→Heap→Prop) (H:Heap):Prop:=
 Qbc C p_s p_prefix (fun r1 H2=>
 K r1 H2) H
theorem QgP (C p_s p_prefix K H) (h:QdS C p_s p_prefix K H):QcK C p_s p_prefix K H:=by
 refine Ye Tryz.func261 rfl Tryz.ntmps261 [(0,sv p_s),(1,sv p_prefix)] (Zo (Za (GL.nil (Zo (Zm (Zm (Zc h Qdm ?_)))))))
 rintro _ H2 ⟨r1,rfl,h⟩
 refine Za (GL.nil ?_)
 exact Y1 I3 ⟨r1,rfl,h⟩
def Qhc (C:Ctx) (p_s:Str) (p_cutset:Str) (K:Str→Heap→Prop) (H:Heap):Prop:=
 ift ((p_s == ([]:Str)) || (p_cutset == ([]:Str)))
 (K p_s H)
 (jn (α:=Bool) (fun b3 H10=>
 ift b3
 (dr H10 fun Hs12=>
 ixs p_cutset 0 fun c14=>
 ixs p_cutset 0 fun c17=>
 Qf6 C p_s (c14.toNat:Int) (fun r21 H22=>
 Heap.le Hs12 H22∧
 QgC C r21 (c17.toNat:Int) (fun r24 H25=>
 Heap.le Hs12 H25∧
 K r24 H25) H22) H10)
 (QY C p_cutset (fun r26 r27 H28=>
 nw ((List.replicate 256 (.bool false:Value))) (fun b29 H30=>
 stC 256 (b29,0) r26 (fun H31=>
 ift r27
 (Qbv C p_s (some (b29,0)) (fun r35 H36=>
 QbI C r35 (some (b29,0)) (fun r37 H38=>
 K r37 H38) H36) H31)
 (QeD C p_s p_cutset (fun r39 H40=>
 Qe1 C r39 p_cutset (fun r41 H42=>
 K r41 H42) H40) H31)) H30) H28) H10))
 (fun J4=>ift (((List.length p_cutset:Int):Int) == 1)
 (ixs p_cutset 0 fun c7=>
 J4 (decide (((c7.toNat:Int):Int) < 128)) H)
 (J4 false H)))
theorem Qjp (C p_s p_cutset K H) (h:Qhc C p_s p_cutset K H):Qbj C p_s p_cutset K H:=by
 refine Ye Tryz.func262 rfl Tryz.ntmps262 [(0,sv p_s),(1,sv p_cutset)] (Zo (Za (GL.nil (GC.seq (Zo (Zm (Zv (OV.sbin (a:=p_s) (b:=([]:Str)) (v:=.bool (p_s == ([]:Str))) rfl rfl rfl) (Zm (GL.cut0 3 [(12,.bool ((p_s == ([]:Str)) || (p_cutset == ([]:Str)))),(0,sv p_s),(1,sv p_cutset)] ?_ ?_)))))))))
 rcases Zb (p_s == ([]:Str)) with u1 | u1
 refine Zk u1 (Zk u1 (Zt u1 ?_))
 exact GL.jump0 I3 () rfl ⟨(by rw [u1]; rfl),rfl,rfl,trivial⟩
 refine Zu u1 Ym (Zu u1 (OV.sbin (a:=p_cutset) (b:=([]:Str)) (v:=.bool (p_cutset == ([]:Str))) rfl rfl rfl) (Zn u1 ?_))
 exact GL.jump0 I3 () rfl ⟨(by rw [u1]; rfl),rfl,rfl,trivial⟩
 refine GL.nil (Yd h (fun u2 h=>?_) fun u2 h=>?_)
 refine Zo (Zm (Za (GL.nil ?_)))
 exact Y1 I3 ⟨p_s,rfl,h⟩
 refine GC.skip (GC.seq (Zo (Zm (Zr (Zi (.bool (((List.length p_cutset:Int):Int) == 1)) (Zm ?_))))))
 obtain ⟨J4,h,hR5⟩:=h
 refine GL.cut (α:=Bool) 4 J4 (fun b3=>[(21,.bool b3),(0,sv p_s),(1,sv p_cutset)]) ?_ ?_
 rcases h.em with ⟨u6,h⟩ | ⟨u6,h⟩
 refine Zu u6 Ym ?_
 obtain ⟨c7,ha8,hb9,h⟩:=h
 refine Zu u6 (OV.indexStr rfl rfl rfl ha8 hb9) (Zu u6 (OV.ibin (v:=.bool (decide (((c7.toNat:Int):Int) < 128))) rfl rfl rfl) (Zt u6 ?_))
 exact Yj I3 (decide (((c7.toNat:Int):Int) < 128)) h
 refine Zk u6 (Zk u6 (Zk u6 (Zn u6 ?_)))
 exact Yj I3 false h
 intro b3 H10 h
 replace h:=hR5 b3 H10 h
 refine GL.nil (Yd h (fun u11 h=>?_) fun u11 h=>?_)
 refine GC.seq ?_
 obtain ⟨Hs12,hle13,h⟩:=h
 refine GC.any (Hs:=Hs12) (by kernel_rfl) hle13 (Zp 0 rfl Ym (Zp 1 rfl Ym ?_))
 obtain ⟨c14,ha15,hb16,h⟩:=h
 refine Zp 2 rfl (OV.indexStr rfl rfl rfl ha15 hb16) (Zp 4 rfl Ym ?_)
 obtain ⟨c17,ha18,hb19,h⟩:=h
 refine Zp 5 rfl (OV.indexStr rfl rfl rfl ha18 hb19) (GA.eff 3 rfl (by kernel_rfl) (Zc h QfG ?_))
 rintro _ H22 ⟨r21,rfl,h⟩
 obtain ⟨hle20,h⟩:=h
 refine GA.back hle20 (GA.eff 6 rfl (by kernel_rfl) (Zc h Qgd ?_))
 rintro _ H25 ⟨r24,rfl,h⟩
 obtain ⟨hle23,h⟩:=h
 refine GA.back hle23 (Zp 7 rfl Ya (GA.done (by kernel_rfl) (GL.nil ?_)))
 exact Y1 I3 ⟨r24,rfl,h⟩
 refine GC.skip (GC.seq (Zo (Zm (Zc h Qgc ?_))))
 rintro _ H28 ⟨r26,r27,rfl,h⟩
 refine Zm (Yv (.agg (List.toArray r26)) rfl rfl (Yv (.bool r27) rfl rfl (GL.alloc (cs:=(List.replicate 256 (.bool false:Value))) h trivial rfl rfl rfl ?_)))
 intro b29 H30 h
 obtain ⟨hl32,h133,h⟩:=h
 refine GL.storeT (p:=(b29,0)) (vs:=r26) h trivial rfl rfl h133 (by rw [hl32]; rfl) ?_
 intro H31 h
 refine Za (GL.nil (Zo (Zm (GL.nil (Yd h (fun u34 h=>?_) fun u34 h=>?_)))))
 refine Zo (Zm (Zc h Qe7 ?_))
 rintro _ H36 ⟨r35,rfl,h⟩
 refine Zc h QfF ?_
 rintro _ H38 ⟨r37,rfl,h⟩
 refine Za (GL.nil ?_)
 exact Y1 I3 ⟨r37,rfl,h⟩
 refine GC.skip (Zo (Zm (Zm (Zc h Qes ?_))))
 rintro _ H40 ⟨r39,rfl,h⟩
 refine Zm (Zc h QeE ?_)
 rintro _ H42 ⟨r41,rfl,h⟩
 refine Za (GL.nil ?_)
 exact Y1 I3 ⟨r41,rfl,h⟩
def Qa8 (C:Ctx) (p_s:Str) (p_prefix:Str) (K:Str→Heap→Prop) (H:Heap):Prop:=
 Q2 C p_s p_prefix (fun r1 H2=>
 ift r1
 (slS p_s (List.length p_prefix:Int) (List.length p_s:Int) fun t4=>
 K t4 H2)
 (K p_s H2)) H
theorem Qdl (C p_s p_prefix K H) (h:Qa8 C p_s p_prefix K H):Qbc C p_s p_prefix K H:=by
 refine Ye Tryz.func268 rfl Tryz.ntmps268 [(0,sv p_s),(1,sv p_prefix)] (Zo (Za (GL.nil (GC.seq (Zo (Zm (Zm (Zc h Qbe ?_))))))))
 rintro _ H2 ⟨r1,rfl,h⟩
 refine GL.nil (Yd h (fun u3 h=>?_) fun u3 h=>?_)
 refine Zo (Zm (Zm (Zr ?_)))
 obtain ⟨h5,h6,h7,t4,h8,h⟩:=h
 refine Zv (OV.sliceStr (s:=p_s) h5 h6 h7 h8 rfl rfl rfl rfl rfl rfl) (Za (GL.nil ?_))
 exact Y1 I3 ⟨t4,rfl,h⟩
 refine GC.skip (Zo (Zm (Za (GL.nil ?_))))
 exact Y1 I3 ⟨p_s,rfl,h⟩
def Qdx (C:Ctx) (p_chars:Str) (K:List Value→Bool→Heap→Prop) (H:Heap):Prop:=
 nw ((List.replicate 256 (.bool false:Value))) (fun b1 H2=>
 lp (α:=Int) 0 H2 (fun x3 J4 H5=>
 ift (decide ((x3:Int) < (List.length p_chars:Int)))
 (ixs p_chars x3 fun c7=>
 ift (decide (((c7.toNat:Int):Int) ≥ 128))
 (ldC H5 256 (b1,0) fun x11=>
 stC 256 (b1,0) x11 (fun H14=>
 ldC H14 256 (b1,0) fun x17=>
 K x17 false H14) H5)
 (ixr (b1,0) 256 (c7.toNat:Int) <|
 st ((b1,0).1,(b1,0).2+((c7.toNat:Int):Int).toNat*1) (.bool true) (fun H22=>
 J4 (w .i64 (x3+1)) H22) H5))
 (ldC H5 256 (b1,0) fun x23=>
 stC 256 (b1,0) x23 (fun H26=>
 ldC H26 256 (b1,0) fun x29=>
 K x29 true H26) H5))) H
theorem QfY (C p_chars K H) (h:Qdx C p_chars K H):QY C p_chars K H:=by
 refine Ye Tryz.func271 rfl Tryz.ntmps271 [(0,sv p_chars)] (Zo (GL.alloc (cs:=(List.replicate 256 (.bool false:Value))) h trivial rfl rfl rfl ?_))
 intro b1 H2 h
 refine Za (GL.nil (GC.seq (Zo (Za (GL.nil (GC.block (Yp h (fun x3=>[(4,.int .i64 x3),(0,sv p_chars),(2,pv (some (b1,0)))]) ?_)))))))
 intro x3 H5 J4 h
 refine GC.seq (Zo (Zm (Zm (Zr (Zi (.bool (decide ((x3:Int) < (List.length p_chars:Int)))) (GL.nil (Yd h (fun u6 h=>?_) fun u6 h=>?_)))))))
 refine GC.skip (GC.seq (GC.block (Zo (Zm (Zm (Ys h fun c7 h=>?_))))))
 refine Za (GL.nil (GC.seq (Zo (Zm (Zi (.bool (decide (((c7.toNat:Int):Int) ≥ 128))) (GL.nil (Yd h (fun u10 h=>?_) fun u10 h=>?_)))))))
 refine Zo ?_
 obtain ⟨x11,hl13,v12,h⟩:=h
 refine Zv (OV.loadT (p:=(b1,0)) (cs:=x11) rfl rfl (by rw [hl13]; rfl) v12) ?_
 obtain ⟨hl15,h116,h⟩:=h
 refine GL.storeT (p:=(b1,0)) (vs:=x11) h trivial rfl rfl h116 (by rw [hl15]; rfl) ?_
 intro H14 h
 refine Za (GL.nil ?_)
 obtain ⟨x17,hl19,v18,h⟩:=h
 exact GC.ret (fun _ _ hf hs=>Qkd rfl (RV.cellT (p:=(b1,0)) (cs:=x17) rfl rfl (by rw [hl19]; rfl) v18) (RV.tmp rfl) hf hs ⟨x17,false,rfl,h⟩)
 refine GC.skip (GC.region (Zm ?_))
 obtain ⟨ha20,hb21,h⟩:=h
 refine Zv (OV.indexAddrA (p:=(b1,0)) rfl rfl rfl rfl ha20 hb21) (GL.store (p:=((b1,0).1,(b1,0).2+((c7.toNat:Int):Int).toNat*1)) (v:=.bool true) h trivial rfl rfl rfl rfl ?_)
 intro H22 h
 refine GL.nil_to I3 (GC.region (Zm (Zi (.int .i64 (w .i64 (x3+1))) (Za ?_))))
 exact Yj I3 (w .i64 (x3+1)) h
 refine GC.exit_to I3 (Zo ?_)
 obtain ⟨x23,hl25,v24,h⟩:=h
 refine Zv (OV.loadT (p:=(b1,0)) (cs:=x23) rfl rfl (by rw [hl25]; rfl) v24) ?_
 obtain ⟨hl27,h128,h⟩:=h
 refine GL.storeT (p:=(b1,0)) (vs:=x23) h trivial rfl rfl h128 (by rw [hl27]; rfl) ?_
 intro H26 h
 refine Za (GL.nil ?_)
 obtain ⟨x29,hl31,v30,h⟩:=h
 exact GC.ret (fun _ _ hf hs=>Qkd rfl (RV.cellT (p:=(b1,0)) (cs:=x29) rfl rfl (by rw [hl31]; rfl) v30) (RV.tmp rfl) hf hs ⟨x29,true,rfl,h⟩)
def Qde (C:Ctx) (p_s:Str) (p_as:Option (Nat×Nat)) (K:Str→Heap→Prop) (H:Heap):Prop:=
 jn (α:=Str) (fun x2 H3=>
 K x2 H3)
 (fun J1=>lp (α:=Str) p_s H (fun x5 J6 H7=>
 ift (decide (((List.length x5:Int):Int) > 0))
 (ixs x5 0 fun c9=>
 Qas C p_as (c9.toNat:Int) (fun r12 H13=>
 ift (!r12)
 (J1 x5 H13)
 (slS x5 1 (List.length x5:Int) fun t15=>
 J6 t15 H13)) H7)
 (J1 x5 H7)))
theorem Qfl (C p_s p_as K H) (h:Qde C p_s p_as K H):QbI C p_s p_as K H:=by
 refine Ye Tryz.func272 rfl Tryz.ntmps272 [(0,sv p_s),(1,pv p_as)] (Zo (Za (GL.nil ?_)))
 obtain ⟨J1,h,hR4⟩:=h
 refine GC.join (α:=Str) J1 (fun x2=>[(0,sv x2)]) ?_ ?_
 refine GC.block (Yp h (fun x5=>[(0,sv x5),(1,pv p_as)]) ?_)
 intro x5 H7 J6 h
 refine GC.seq (Zo (Zm (Zr (Zi (.bool (decide (((List.length x5:Int):Int) > 0))) (GL.nil (Yd h (fun u8 h=>?_) fun u8 h=>?_))))))
 refine GC.skip (GC.block (GC.seq (Zo (Zm (Zm (Ys h fun c9 h=>?_))))))
 refine Zc h Qcd ?_
 rintro _ H13 ⟨r12,rfl,h⟩
 refine Zv (OV.not rfl) (GL.nil (Yd h (fun u14 h=>?_) fun u14 h=>?_))
 exact GC.exit_jump I3 x5 h ⟨rfl,trivial⟩
 refine GC.skip (GC.region (Zm ?_))
 obtain ⟨h16,h17,h18,t15,h19,h⟩:=h
 refine Zv (OV.sliceStr (s:=x5) h16 h17 h18 h19 rfl rfl rfl rfl rfl rfl) (Za ?_)
 exact Yj I3 t15 h
 exact GC.exit_jump I3 x5 h ⟨rfl,trivial⟩
 intro x2 H3 h
 replace h:=hR4 x2 H3 h
 refine Zo (Zm (Za (GL.nil ?_)))
 exact Y1 I3 ⟨x2,rfl,h⟩
def QcX (C:Ctx) (p_s:Str) (p_as:Option (Nat×Nat)) (K:Str→Heap→Prop) (H:Heap):Prop:=
 jn (α:=Str) (fun x2 H3=>
 K x2 H3)
 (fun J1=>lp (α:=Str) p_s H (fun x5 J6 H7=>
 ift (decide (((List.length x5:Int):Int) > 0))
 (ixs x5 (w .i64 ((List.length x5:Int) - 1)) fun c9=>
 Qas C p_as (c9.toNat:Int) (fun r12 H13=>
 ift (!r12)
 (J1 x5 H13)
 (slS x5 0 (w .i64 ((List.length x5:Int) - 1)) fun t15=>
 J6 t15 H13)) H7)
 (J1 x5 H7)))
theorem QeW (C p_s p_as K H) (h:QcX C p_s p_as K H):Qbv C p_s p_as K H:=by
 refine Ye Tryz.func273 rfl Tryz.ntmps273 [(0,sv p_s),(1,pv p_as)] (Zo (Za (GL.nil ?_)))
 obtain ⟨J1,h,hR4⟩:=h
 refine GC.join (α:=Str) J1 (fun x2=>[(0,sv x2)]) ?_ ?_
 refine GC.block (Yp h (fun x5=>[(0,sv x5),(1,pv p_as)]) ?_)
 intro x5 H7 J6 h
 refine GC.seq (Zo (Zm (Zr (Zi (.bool (decide (((List.length x5:Int):Int) > 0))) (GL.nil (Yd h (fun u8 h=>?_) fun u8 h=>?_))))))
 refine GC.skip (GC.block (GC.seq (Zo (Zm (Zm (Zm (Zr (Zi (.int .i64 (w .i64 ((List.length x5:Int) - 1))) (Ys h fun c9 h=>?_)))))))))
 refine Zc h Qcd ?_
 rintro _ H13 ⟨r12,rfl,h⟩
 refine Zv (OV.not rfl) (GL.nil (Yd h (fun u14 h=>?_) fun u14 h=>?_))
 exact GC.exit_jump I3 x5 h ⟨rfl,trivial⟩
 refine GC.skip (GC.region (Zm (Zm (Zr (Zi (.int .i64 (w .i64 ((List.length x5:Int) - 1))) ?_)))))
 obtain ⟨h16,h17,h18,t15,h19,h⟩:=h
 refine Zv (OV.sliceStr (s:=x5) h16 h17 h18 h19 rfl rfl rfl rfl rfl rfl) (Za ?_)
 exact Yj I3 t15 h
 exact GC.exit_jump I3 x5 h ⟨rfl,trivial⟩
 intro x2 H3 h
 replace h:=hR4 x2 H3 h
 refine Zo (Zm (Za (GL.nil ?_)))
 exact Y1 I3 ⟨x2,rfl,h⟩
def Qcf (C:Ctx) (p_as:Option (Nat×Nat)) (p_c:Int) (K:Bool→Heap→Prop) (H:Heap):Prop:=
 nck p_as fun p1=>
 ixr p1 256 p_c <|
 ldB H (p1.1,p1.2+(p_c:Int).toNat*1) fun x5=>
 K x5 H
theorem Qeb (C p_as p_c K H) (h:Qcf C p_as p_c K H):Qas C p_as p_c K H:=by
 refine Ye Tryz.func278 rfl Tryz.ntmps278 [(0,pv p_as),(1,.int .u8 p_c)] (Zo (Za (GL.nil (Zo (Zm (Zm ?_))))))
 obtain ⟨p1,hp2,h⟩:=h
 refine Zv (OV.nilCheck (q:=p_as) rfl hp2) ?_
 obtain ⟨ha3,hb4,h⟩:=h
 refine Zv (OV.indexAddrA (p:=p1) rfl rfl rfl rfl ha3 hb4) (Yl h fun x5 h=>?_)
 refine Za (GL.nil ?_)
 exact Y1 I3 ⟨x5,rfl,h⟩
end
end Sx
end
noncomputable section
set_option linter.unusedVariables false
namespace Go.Proofs
open Go.Shelf
end Go.Proofs
namespace Sx
open Go Go.Proofs Go.Stop Go.RowKit
/-- what writes numbers -/
structure FmtC (C:Ctx):Prop where
 ok:∀ {n:Int} {H:Heap} {K:Str→Heap→Prop},-9223372036854775808≤n→n≤9223372036854775807→K (Lib.itoa n) H→QhV C n 10 K H
end Sx
end

noncomputable section
set_option linter.unusedVariables false
set_option linter.unusedSimpArgs false
namespace Go.Proofs
open Go.Shelf
def Tryz.lays144_ren:Go.Shelf.Ren:=⟨fun | 144=>121 | 143=>187 | 219=>221 | 217=>241 | 225=>242 | 224=>243 | 267=>244 | 266=>253 | 314=>254 | n=>n,fun | 9=>9 | 4=>4 | 3=>3 | 5=>5 | 46=>80 | 146=>278 | 51=>277 | n=>n,fun | 1=>0 | n=>n⟩
theorem Tryz.lays144:Go.Proofs.Lays.n144 Tryz.prog Tryz.lays144_ren:={
 mixed:=by kernel_rfl
 f143:=Tryz.func187.trans (congrArg some (by kernel_rfl))
 f144:=Tryz.func121.trans (congrArg some (by kernel_rfl))
 f217:=Tryz.func241.trans (congrArg some (by kernel_rfl))
 f219:=Tryz.func221.trans (congrArg some (by kernel_rfl))
 f224:=Tryz.func243.trans (congrArg some (by kernel_rfl))
 f225:=Tryz.func242.trans (congrArg some (by kernel_rfl))
 f266:=Tryz.func253.trans (congrArg some (by kernel_rfl))
 f267:=Tryz.func244.trans (congrArg some (by kernel_rfl))
 f314:=Tryz.func254.trans (congrArg some (by kernel_rfl))
 t3:=Tryz.underlying3
 a3:=Tryz.isAgg3
 z3:=Tryz.sizeOf3
 v3:=Tryz.zeroValue3
 t4:=Tryz.underlying4
 a4:=Tryz.isAgg4
 z4:=Tryz.sizeOf4
 v4:=Tryz.zeroValue4
 t5:=Tryz.underlying5
 a5:=Tryz.isAgg5
 z5:=Tryz.sizeOf5
 v5:=Tryz.zeroValue5
 t9:=Tryz.underlying9
 a9:=Tryz.isAgg9
 z9:=Tryz.sizeOf9
 v9:=Tryz.zeroValue9
 t46:=Tryz.underlying80
 a46:=Tryz.isAgg80
 z46:=Tryz.sizeOf80
 v46:=Tryz.zeroValue80
 t51:=Tryz.underlying277
 a51:=Tryz.isAgg277
 z51:=Tryz.sizeOf277
 v51:=Tryz.zeroValue277
 t146:=Tryz.underlying278
 a146:=Tryz.isAgg278
 z146:=Tryz.sizeOf278
 v146:=Tryz.zeroValue278
 g1:=by kernel_rfl }
end Go.Proofs
namespace Sx
open Go Go.Proofs Go.Stop Go.RowKit
/-- the library's variable holds some number -/
def MaxC (C:Ctx):Prop:=0 < C.old.size∧∃ m,∀ w:World,(∀ b:Nat,b < C.old.size→w.heap[b]? = C.old[b]?)→w.cell? ⟨0,0,none⟩=some (.int .i64 m)
theorem QkL {C:Ctx} {a b:Str} {H:Heap} {K:Bool→Heap→Prop} (hT:MaxC C) (hl:a.length < 4294967281) (k:K (Lib.contains a b) H):QeK C a b K H:=by
 intro w hw
 obtain ⟨_,m,hm⟩:=hT
 refine (Any.strings_Contains Tryz.lays144 ⟨a.toArray⟩ ⟨b.toArray⟩ m w (by show a.toArray.size < _; simpa using hl) (hm w hw.old)).mono ?_
 rintro e w' ⟨rfl,rfl⟩
 exact ⟨_,H,rfl,hw,_,rfl,by simpa using k⟩
theorem Qq1 {W:World} (h:W.ShapedOpen Tryz.prog):MaxC (ctxOf W):=by
 obtain ⟨m,hm⟩:=cell_of_shapedOpen_int (g:=0) (t:=3) (zero:=#[.int .i64 0]) (k:=.i64) h (by decide +kernel) (by kernel_rfl) rfl (by kernel_rfl) (by kernel_rfl) Tryz.underlying3
 have hlt:0 < W.heap.size:=by
  rcases Nat.lt_or_ge 0 W.heap.size with h | h
  ·exact h
  ·simp [World.cell?,Array.getElem?_eq_none h] at hm
 refine ⟨hlt,m,fun w hw=>?_⟩
 have:=hw 0 hlt
 simp only [World.cell?] at hm ⊢
 rw [this]; exact hm
end Sx
end

noncomputable section
set_option linter.unusedVariables false
set_option linter.unusedSimpArgs false
namespace Sx
open Go
inductive V where
 | mk (k n:Int) (s:Str) (l:List V)
namespace V
def k:V→Int | .mk k _ _ _=>k
def n:V→Int | .mk _ n _ _=>n
def s:V→Str | .mk _ _ s _=>s
def l:V→List V | .mk _ _ _ l=>l
end V
mutual
def vsize:V→Nat
 | .mk _ _ _ l=>vsizes l+1
def vsizes:List V→Nat
 | []=>0
 | v::l=>vsize v+vsizes l
end
theorem QmB:∀ {l:List V} {v:V},v ∈ l→vsize v≤vsizes l
 | w::l,v,h=>by
  simp only [vsizes]
  rcases List.mem_cons.1 h with rfl | h
  ·omega
  ·have:=QmB h; omega
theorem Qro {v w:V} (h:w ∈ v.l):vsize w < vsize v:=by
 obtain ⟨k,n,s,l⟩:=v
 have:=QmB (show w ∈ l from h)
 simp only [vsize]; omega
/-- by how great a value is -/
theorem V.rec_ {P:V→Prop} (h:∀ v,(∀ w ∈ v.l,P w)→P v) (v:V):P v:=by
 have:∀ n v,vsize v≤n→P v:=by
  intro n
  induction n with
  | zero=>intro v hv; obtain ⟨k,n,s,l⟩:=v; simp [vsize] at hv
  | succ n ih=>intro v hv; exact h v fun w hw=>ih w (by have:=Qro hw; omega)
 exact this _ v (Nat.le_refl _)
mutual
def dep:V→Nat
 | .mk _ _ _ l=>deps l+1
def deps:List V→Nat
 | []=>0
 | v::l=>max (dep v) (deps l)
end
theorem Qrz (v:V):dep v=deps v.l+1:=by obtain ⟨k,n,s,l⟩:=v; rfl
theorem QhX:∀ (a b:List V),deps (a++b)=max (deps a) (deps b)
 | [],b=>by simp [deps]
 | v::a,b=>by simp only [List.cons_append,deps,QhX a b]; omega
theorem QoC {l:List V} {i:Nat} (h:i < l.length):deps (l.take (i+1))=max (deps (l.take i)) (dep l[i]):=by
 rw [List.take_add_one,List.getElem?_eq_getElem h,Option.toList_some,QhX]; simp [deps]
theorem QoB:∀ {l:List V} {v:V},v ∈ l→dep v≤deps l
 | w::l,v,h=>by
  simp only [deps]
  rcases List.mem_cons.1 h with rfl | h
  ·omega
  ·have:=QoB h; omega
def lowC (c:UInt8):Bool:=decide (97≤c.toNat) && decide (c.toNat≤122)
def nameC (c:UInt8):Bool:=lowC c || (decide (65≤c.toNat) && decide (c.toNat≤90)) || (decide (48≤c.toNat) && decide (c.toNat≤57)) || decide (c.toNat=95)
def nameS (s:Str):Bool:=!s.isEmpty && decide (s.length≤32) && lowC (s.headD 0) && s.all nameC
def digC (c:UInt8):Bool:=decide (48≤c.toNat) && decide (c.toNat≤57)
def cutD:Str→Option (Str×Str)
 | []=>none
 | c::t=>if c=46 then some ([],t) else (cutD t).map fun p=>(c::p.1,p.2)
theorem QmJ:∀ (a b:Str),(46:UInt8) ∉ a→cutD (a++46::b)=some (a,b)
 | [],b,_=>by simp [cutD]
 | c::a,b,h=>by
  have h1:c≠46:=fun e=>h (by rw [e]; exact List.mem_cons_self ..)
  simp only [List.cons_append,cutD,if_neg h1,QmJ a b fun hh=>h (List.mem_cons_of_mem _ hh)]; rfl
theorem QmK:∀ (a:Str),(46:UInt8) ∉ a→cutD a=none
 | [],_=>rfl
 | c::a,h=>by
  have h1:c≠46:=fun e=>h (by rw [e]; exact List.mem_cons_self ..)
  simp only [cutD,if_neg h1,QmK a fun hh=>h (List.mem_cons_of_mem _ hh)]; rfl
theorem Qnn:∀ (s:Str),(46:UInt8) ∈ s→∃ a b,s=a++46::b∧46 ∉ a
 | c::s,h=>by
  by_cases hc:c=46
  ·exact ⟨[],s,by rw [hc]; rfl,by simp⟩
  ·obtain ⟨a, b, h1, h2⟩ := Qnn s (by simpa [Ne.symm hc] using h)
   exact ⟨c::a,b,by rw [h1]; rfl,by simp [h2,Ne.symm hc]⟩
def trueS:Str:=[116,114,117,101]
def falseS:Str:=[102,97,108,115,101]
def namesS (s:Str):Bool:=if s=trueS∨s=falseS then false else match cutD s with
 | some (a,b)=>nameS a && nameS b
 | none=>nameS s
def unmin (s:Str):Str:=if s.head? = some 45 then s.tail else s
def numS (s:Str):Bool:=!(unmin s).isEmpty && (unmin s).all digC && !(decide ((unmin s).head? = some 48) && decide (s≠[48]))
def digits (s:Str):Nat:=(unmin s).length
def okN (k n:Int) (s:Str) (m:Nat):Bool:=
 if k=1 then (n == 0 || n == 1) && s.isEmpty && decide (m=0)
 else if k=2 then s.isEmpty && decide (m=0)
 else if k=3 then numS s && n == 0 && decide (m=0)
 else if k=4 then n == 0 && decide (m=0)
 else if k=5 then n == 0 && s.isEmpty && decide (m≠1)
 else if k=6 then n == 0 && namesS s
 else false
def fitN (k:Int) (s:Str) (m:Nat):Bool:=
 if k=3 then decide (digits s≤200)
 else if k=4 then decide (s.length≤4096)
 else if k=5 then decide (m≤16)
 else if k=6 then decide (m≤8)
 else true
mutual
def formV:V→Bool
 | .mk k n s l=>okN k n s l.length && formVs l
def formVs:List V→Bool
 | []=>true
 | v::l=>formV v && formVs l
end
mutual
def fitsV:V→Bool
 | .mk k n s l=>fitN k s l.length && fitsVs l
def fitsVs:List V→Bool
 | []=>true
 | v::l=>fitsV v && fitsVs l
end
theorem QpQ (v:V):formV v=(okN v.k v.n v.s v.l.length && formVs v.l):=by obtain ⟨k,n,s,l⟩:=v; rfl
theorem QpP (v:V):fitsV v=(fitN v.k v.s v.l.length && fitsVs v.l):=by obtain ⟨k,n,s,l⟩:=v; rfl
theorem Qil:∀ (a b:List V),formVs (a++b)=(formVs a && formVs b)
 | [],b=>by simp [formVs]
 | v::a,b=>by simp only [List.cons_append,formVs,Qil a b,Bool.and_assoc]
theorem Qij:∀ (a b:List V),fitsVs (a++b)=(fitsVs a && fitsVs b)
 | [],b=>by simp [fitsVs]
 | v::a,b=>by simp only [List.cons_append,fitsVs,Qij a b,Bool.and_assoc]
theorem QmV {l:List V} {i:Nat} (h:i < l.length):formVs (l.take (i+1))=(formVs (l.take i) && formV l[i]):=by
 rw [List.take_add_one,List.getElem?_eq_getElem h,Option.toList_some,Qil]; simp [formVs]
theorem QmT {l:List V} {i:Nat} (h:i < l.length):fitsVs (l.take (i+1))=(fitsVs (l.take i) && fitsV l[i]):=by
 rw [List.take_add_one,List.getElem?_eq_getElem h,Option.toList_some,Qij]; simp [fitsVs]
def checkV (v:V):Int:=if dep v > 64 then 65 else if formV v=false then 4 else if fitsV v=false then 40 else 0
def mayV (v:V):Bool:=decide (checkV v=0)
end Sx
end

noncomputable section
set_option linter.unusedVariables false
set_option linter.unusedSimpArgs false
set_option maxRecDepth 10000
namespace Sx
section
open Go Go.Proofs
theorem Qik {α β:Type} (f:α→List β) (z:Nat) (hz:∀ x,(f x).length=z):∀ (l:List α) (i:Nat) (x:α),l[i]? = some x→∀ (j:Nat) (v:β),(f x)[j]? = some v→(l.flatMap f)[i*z+j]? = some v
 | [],i,x,h,j,v,hv=>by simp at h
 | y::l,0,x,h,j,v,hv=>by
  simp at h; subst h
  rw [List.flatMap_cons,Nat.zero_mul,Nat.zero_add,List.getElem?_append_left (List.getElem?_eq_some_iff.1 hv).1]; exact hv
 | y::l,i+1,x,h,j,v,hv=>by
  have:=Qik f z hz l i x (by simpa using h) j v hv
  rw [List.flatMap_cons,List.getElem?_append_right (by rw [hz,Nat.add_mul]; omega),hz]
  rw [show (i+1)*z+j - z=i*z+j by rw [Nat.add_mul]; omega]; exact this
abbrev TV:=Qm
theorem TV.c_len (x:TV):(Qm.c x).length=4:=rfl
mutual
def VIs (H:Heap):V→TV→Prop
 | .mk k n s l,x=>x.Kind=k∧x.N=n∧x.S=s∧∃ xs:List TV,rdsl H x.L (xs.flatMap Qm.c)∧x.L.len=xs.length∧VsAre H l xs
def VsAre (H:Heap):List V→List TV→Prop
 | [],[]=>True
 | v::l,x::xs=>VIs H v x∧VsAre H l xs
 | [],_::_=>False
 | _::_,[]=>False
end
/-- a row of values -/
def VRow (H:Heap) (t:Sl) (l:List V):Prop:=∃ xs:List TV,rdsl H t (xs.flatMap Qm.c)∧t.len=xs.length∧VsAre H l xs
theorem QgN {H:Heap} {v:V} {x:TV}:VIs H v x↔x.Kind=v.k∧x.N=v.n∧x.S=v.s∧VRow H x.L v.l:=by obtain ⟨k,n,s,l⟩:=v; rfl
theorem VsAre.len {H:Heap}:∀ {l:List V} {xs:List TV},VsAre H l xs→l.length=xs.length
 | [],[],_=>rfl
 | v::l,x::xs,h=>by have:=VsAre.len h.2; simp [this]
theorem VsAre.get {H:Heap}:∀ {l:List V} {xs:List TV},VsAre H l xs→∀ (i:Nat) (v:V) (x:TV),l[i]? = some v→xs[i]? = some x→VIs H v x
 | [],[],_,i,v,x,h,_=>by simp at h
 | v::l,x::xs,h,0,v',x',h1,h2=>by simp at h1 h2; subst h1; subst h2; exact h.1
 | v::l,x::xs,h,i+1,v',x',h1,h2=>VsAre.get h.2 i v' x' (by simpa using h1) (by simpa using h2)
mutual
theorem VIs.le {A B:Heap} (h:A.le B):∀ {v:V} {x:TV},VIs A v x→VIs B v x
 | .mk k n s l,x,⟨h1,h2,h3,xs,h4,h5,h6⟩=>⟨h1,h2,h3,xs,QiT h h4,h5,VsAre.le h h6⟩
theorem VsAre.le {A B:Heap} (h:A.le B):∀ {l:List V} {xs:List TV},VsAre A l xs→VsAre B l xs
 | [],[],_=>trivial
 | v::l,x::xs,⟨h1,h2⟩=>⟨VIs.le h h1,VsAre.le h h2⟩
end
theorem VRow.len {H:Heap} {t:Sl} {l:List V} (h:VRow H t l):t.len=l.length:=by
 obtain ⟨xs,h1,h2,h3⟩:=h
 rw [h2,h3.len]
theorem VIs.kind {H:Heap} {v:V} {x:TV} (h:VIs H v x):x.Kind=v.k:=(QgN.1 h).1
theorem VIs.num {H:Heap} {v:V} {x:TV} (h:VIs H v x):x.N=v.n:=(QgN.1 h).2.1
theorem VIs.txt {H:Heap} {v:V} {x:TV} (h:VIs H v x):x.S=v.s:=(QgN.1 h).2.2.1
theorem VIs.row {H:Heap} {v:V} {x:TV} (h:VIs H v x):VRow H x.L v.l:=(QgN.1 h).2.2.2
/-- one of a row's values -/
theorem VRow.ld {A H:Heap} {t:Sl} {l:List V} (h:VRow A t l) (hle:A.le H) {i:Nat} {x:Int} {K:TV→Prop} (hx:x=i) (hi:i < l.length) (k:∀ y,VIs A l[i] y→K y):ixa t x fun p=>ldT H Qm.c (p.1,p.2+x.toNat*4) K:=by
 have hl:=h.len
 obtain ⟨xs,h1,h2,h3⟩:=h
 have hi2:i < xs.length:=by omega
 have hg:=List.getElem?_eq_getElem hi2
 subst hx
 refine Qqm (QiT hle h1) (by omega) (by omega) (fun e=>?_) fun p _ hp=>⟨xs[i],?_,k _ (h3.get i _ _ (List.getElem?_eq_getElem hi) hg)⟩
 ·have:=Qik Qm.c 4 TV.c_len xs i _ hg 0 _ rfl
  rw [e] at this; simp at this
 ·refine QiY fun j v hj => ?_
  have:=Qh5 hp _ _ (Qik Qm.c 4 TV.c_len xs i _ hg j v hj)
  rw [show p.2+(i:Int).toNat*4+j=p.2+(i*4+j) by omega]; exact this
mutual
def VB:V→Prop
 | .mk k n s l=>(0≤k∧k≤255)∧(-9223372036854775808≤n∧n≤9223372036854775807)∧s.length≤140737488355328∧l.length≤140737488355328∧VBs l
def VBs:List V→Prop
 | []=>True
 | v::l=>VB v∧VBs l
end
theorem VBs.mem:∀ {l:List V},VBs l→∀ {v},v ∈ l→VB v
 | w::l,h,v,hv=>by
  rcases List.mem_cons.1 hv with rfl | hv
  ·exact h.1
  ·exact VBs.mem h.2 hv
theorem VB.k {v:V} (h:VB v):0≤v.k∧v.k≤255:=by obtain ⟨k,n,s,l⟩:=v; exact h.1
theorem VB.s {v:V} (h:VB v):v.s.length≤140737488355328:=by obtain ⟨k,n,s,l⟩:=v; exact h.2.2.1
theorem VB.l {v:V} (h:VB v):v.l.length≤140737488355328:=by obtain ⟨k,n,s,l⟩:=v; exact h.2.2.2.1
theorem VB.ls {v:V} (h:VB v):VBs v.l:=by obtain ⟨k,n,s,l⟩:=v; exact h.2.2.2.2
theorem VB.at {v:V} (h:VB v) {i:Nat} (hi:i < v.l.length):VB v.l[i]:=h.ls.mem (List.getElem_mem hi)
section
variable {B:Heap} {b:Nat} {m:Bool} {x:TV}
theorem QnL (h:B b=some (m,.row (Qm.c x))):rd B (b,0)=some (.int .u8 x.Kind)∧rd B (b,1)=some (.int .i64 x.N)∧rd B (b,2)=some (sv x.S)∧rd B (b,3)=some (slv x.L):=
 ⟨by rw [QaL h]; rfl,by rw [QaL h]; rfl,by rw [QaL h]; rfl,by rw [QaL h]; rfl⟩
theorem bxK {K:Int→Prop} (h:B b=some (m,.row (Qm.c x))) (k:K x.Kind):ldI B .u8 ((b,0).1,(b,0).2+0) K:=⟨_,(QnL h).1,k⟩
theorem bxN {K:Int→Prop} (h:B b=some (m,.row (Qm.c x))) (k:K x.N):ldI B .i64 ((b,0).1,(b,0).2+1) K:=⟨_,(QnL h).2.1,k⟩
theorem bxS {K:Str→Prop} (h:B b=some (m,.row (Qm.c x))) (k:K x.S):ldS B ((b,0).1,(b,0).2+2) K:=⟨_,(QnL h).2.2.1,k⟩
theorem bxL {K:Sl→Prop} (h:B b=some (m,.row (Qm.c x))) (k:K x.L):ldL B ((b,0).1,(b,0).2+3) K:=⟨_,(QnL h).2.2.2,k⟩
theorem bxV {K:TV→Prop} (h:B b=some (m,.row (Qm.c x))) (k:K x):ldT B Qm.c (b,0) K:=⟨x,Qev h fun j v hj=>by simpa using hj,k⟩
end
section
variable {C:Ctx} {H:Heap}
theorem QkN {v:V} {x:TV} {H:Heap} {m:Nat} {K:Int→Heap→Prop} (hv:VIs H v x) (hB:VB v) (hm:m≤1000) (k:∀ r:Nat,r≤m+1→r≤dep v→(r=dep v∨m+1≤r)→K r H):QaY C x m K H:=by
 refine V.rec_ (P:=fun v=>∀ {x H} {m:Nat} {K:Int→Heap→Prop},VIs H v x→VB v→m≤1000→(∀ r:Nat,r≤m+1→r≤dep v→(r=dep v∨m+1≤r)→K r H)→QaY C x m K H) (fun v ih=>?_) v hv hB hm k
 clear hv hB hm k m
 intro x H m K hv hB hm k
 apply QaY.gh
 apply Qky
 unfold QhU
 intro b1 n1
 have hr:=hv.row
 have hl:=hr.len
 have hbl:=hB.l
 have hde:=Qrz v
 have hb1:(H.put b1 (.row (Qm.c x))) b1=some (true,.row (Qm.c x)):=Heap.put_same ..
 refine ⟨fun y H'=>H.le H'∧∃ r:Nat,y=(r:Int)∧r≤m∧r≤deps v.l∧(r=deps v.l∨m≤r),?_,?_⟩
 rotate_left
 ·rintro y H' ⟨hle,r,rfl,h0,h1,h2⟩
  rw [Qbl (by omega) (by omega)]
  have:=k (r+1) (by omega) (by omega) (by omega)
  exact ⟨H,Gh.le hle,by simpa using this⟩
 refine bxL hb1 ?_
 refine ⟨fun y H'=>∃ i r:Nat,y=((r:Int),(i:Int))∧i≤v.l.length∧H.le H'∧r≤m∧r≤deps (v.l.take i)∧(r=deps (v.l.take i)∨m≤r),fun y _=>v.l.length - y.2.toNat,⟨0,0,rfl,Nat.zero_le _,Heap.le_put n1,Nat.zero_le _,Nat.zero_le _,.inl (by simp [deps])⟩,?_⟩
 rintro _ H' ⟨i,r,rfl,hi,hle,hr0,hr1,hr2⟩
 have hdti:deps (v.l.take i)≤deps v.l:=by
  have h1:=QhX (v.l.take i) (v.l.drop i)
  rw [List.take_append_drop] at h1; omega
 dsimp only
 rw [hl]
 refine ift.of (fun h=>?_) (fun h=>?_)
 ·have hlt : i < v.l.length := by have := of_decide_eq_true h; omega
  have hmem:=List.getElem_mem hlt
  have hdl:=QoB hmem
  refine hr.ld hle rfl hlt fun y hy=>?_
  intro b20 n20
  refine ⟨_,Heap.put_same ..,by simp [Qm.c],?_⟩
  rw [Heap.put_put]
  have esp:splice (Qm.c Qm.zero) (b20,0).2 (Qm.c y)=Qm.c y:=rfl
  rw [esp]
  have hle2:=hle.trans (Heap.le_put n20 (g:=.row (Qm.c y)) (m:=true))
  refine ift.of (fun h=>?_) (fun h=>?_)
  ·have hge : m ≤ r := by have := of_decide_eq_true h; omega
   exact ⟨hle2,r,rfl,by omega,by omega,.inr hge⟩
  ·have hltm : r < m := by have := of_decide_eq_false h; omega
   refine bxV (Heap.put_same ..) ?_
   have em:w .i64 ((m:Int) - 1)=((m - 1:Nat):Int):=by rw [Qbl (by omega) (by omega)]; omega
   rw [em]
   refine ih _ hmem (hy.le hle2) (hB.at hlt) (by omega) fun q hq0 hq1 hq2=>?_
   have hdt:=QoC hlt
   rw [Qbl (by omega) (by omega)]
   refine ⟨⟨i+1,max q r,?_,by omega,hle2,by omega,by omega,?_⟩,by first | omega | (dsimp only; omega)⟩
   ·refine Prod.ext ?_ rfl
    dsimp only
    split <;> omega
   ·rw [hdt]; omega
 ·have hie : i = v.l.length := by have := of_decide_eq_false h; omega
  subst hie
  rw [List.take_length] at hr1 hr2
  exact ⟨hle,r,rfl,hr0,hr1,hr2⟩
end
end
section
open Go Go.Proofs
theorem u8eq (c:UInt8) (n:Nat) (hn:n < 256):((c.toNat:Int) == (n:Int))=decide (c=UInt8.ofNat n):=by
 rw [Bool.eq_iff_iff]; simp only [decide_eq_true_eq,beq_iff_eq]
 constructor
 ·intro h; exact UInt8.toNat_inj.1 (by rw [UInt8.toNat_ofNat']; omega)
 ·rintro rfl; rw [UInt8.toNat_ofNat']; omega
theorem e48 (c:UInt8):((c.toNat:Int) == 48)=decide (c=48):=u8eq c 48 (by omega)
theorem Qni {α:Type} {p:α→Bool} {s:List α} {i:Nat} (h:i < s.length):(s.take (i+1)).all p=((s.take i).all p && p s[i]):=by
 rw [List.take_add_one,List.getElem?_eq_getElem h,Option.toList_some,List.all_append]; simp
theorem Qqi {α:Type} {p:α→Bool} {s:List α} {x:α} (h:x ∈ s) (hp:p x=false):s.all p=false:=by
 rw [List.all_eq_false]; exact ⟨x,h,by simp [hp]⟩
theorem getE {s:Str} {i:Nat} (h:i < s.length):s[((i:Nat):Int).toNat]? = some s[i]:=by simp [h]
theorem getL {s:Str} (h:0 < s.length) {x:Int} (hx:x=(s.length:Int) - 1):s[x.toNat]? = some (s.getLast (List.ne_nil_of_length_pos h)):=by
 subst hx
 have:((s.length:Int) - 1).toNat=s.length - 1:=by omega
 rw [this,List.getElem?_eq_getElem (by omega),List.getLast_eq_getElem]
section
variable {C:Ctx} {H:Heap}
theorem QiF {s:Str} {K:Bool→Heap→Prop} (hs:s.length≤140737488355328) (k:K (nameS s) H):Qc4 C s K H:=by
 apply Qlk
 unfold QiD
 refine ⟨fun b H'=>H=H'∧b=(s.isEmpty || decide (s.length > 32) || decide ((s.headD 0).toNat < 97)),?_,?_⟩
 ·refine ift.of (fun h => ⟨rfl, ?_⟩) (fun h => ?_)
  ·simp only [Bool.or_eq_true,decide_eq_true_eq,beq_iff_eq] at h
   rcases h with rfl | h
   ·rfl
   ·have : decide (s.length > 32) = true := by rw [decide_eq_true_eq]; omega
    rw [this]; simp
  ·cases s with
   | nil=>simp at h
   | cons c t=>
    refine ⟨c,by omega,rfl,rfl,?_⟩
    simp only [Bool.or_eq_false_iff,decide_eq_false_iff_not] at h
    have:decide ((c::t).length > 32)=false:=by rw [decide_eq_false_iff_not]; omega
    rw [this]
    simp only [List.isEmpty_cons,Bool.false_or,List.headD_cons]
    exact (decide_eq_decide.2 (by omega):decide ((c.toNat:Int) < 97)=decide (c.toNat < 97))
 rintro b _ ⟨rfl,rfl⟩
 refine ⟨fun b H'=>H=H'∧b=(s.isEmpty || decide (s.length > 32) || !lowC (s.headD 0)),?_,?_⟩
 ·refine ift.of (fun h => ⟨rfl, ?_⟩) (fun h => ?_)
  ·simp only [Bool.or_eq_true,decide_eq_true_eq] at h
   rcases h with (h | h) | h
   ·rw [h]; rfl
   ·have : decide (s.length > 32) = true := by rw [decide_eq_true_eq]; omega
    rw [this]; simp
   ·have : lowC (s.headD 0) = false := by unfold lowC; rw [decide_eq_false (by omega)]; rfl
    rw [this]; simp
  ·simp only [Bool.or_eq_false_iff,decide_eq_false_iff_not] at h
   cases s with
   | nil=>simp at h
   | cons c t=>
    refine ⟨c,by omega,rfl,rfl,?_⟩
    have:decide ((c::t).length > 32)=false:=by rw [decide_eq_false_iff_not]; omega
    rw [this]
    simp only [List.isEmpty_cons,Bool.false_or,List.headD_cons] at h ⊢
    unfold lowC
    rw [decide_eq_true (by omega:97≤c.toNat),Bool.true_and,← decide_not,decide_eq_decide]; omega
 rintro b _ ⟨rfl,rfl⟩
 refine ift.of (fun h=>?_) (fun h=>?_)
 ·have : nameS s = false := by
   unfold nameS
   simp only [Bool.or_eq_true,decide_eq_true_eq,Bool.not_eq_true'] at h
   rcases h with (h | h) | h
   ·rw [h]; rfl
   ·have : decide (s.length ≤ 32) = false := by rw [decide_eq_false_iff_not]; omega
    rw [this]; simp
   ·rw [h]; simp
  rw [this] at k; exact k
 have hn:nameS s=s.all nameC:=by
  unfold nameS
  simp only [Bool.or_eq_false_iff,decide_eq_false_iff_not,Bool.not_eq_false'] at h
  have:decide (s.length≤32)=true:=by rw [decide_eq_true_eq]; omega
  rw [h.1.1,this,h.2]; simp
 refine ⟨fun x H'=>∃ i:Nat,x=(i:Int)∧i≤s.length∧H=H'∧(s.take i).all nameC=true,fun x _=>s.length - x.toNat,⟨0,rfl,Nat.zero_le _,rfl,rfl⟩,?_⟩
 rintro x _ ⟨i,rfl,hi,rfl,ha⟩
 refine ift.of (fun h=>?_) (fun h=>?_)
 ·have hlt : i < s.length := by have := of_decide_eq_true h; omega
  refine ⟨s[i],by omega,getE hlt,?_⟩
  dsimp only
  have hm:=List.getElem_mem hlt
  have hat:=Qni (p:=nameC) hlt
  generalize s[i]=c at *
  have e:(!(((((decide ((c.toNat:Int) ≥ 97)) && (decide ((c.toNat:Int)≤122))) || ((decide ((c.toNat:Int) ≥ 65)) && (decide ((c.toNat:Int)≤90)))) || ((decide ((c.toNat:Int) ≥ 48)) && (decide ((c.toNat:Int)≤57)))) || ((c.toNat:Int) == 95)))=!nameC c:=by
   unfold nameC lowC
   have h0:decide ((c.toNat:Int) ≥ 97)=decide (97≤c.toNat):=by rw [decide_eq_decide]; omega
   have h01:decide ((c.toNat:Int)≤122)=decide (c.toNat≤122):=by rw [decide_eq_decide]; omega
   have h1:decide ((c.toNat:Int) ≥ 65)=decide (65≤c.toNat):=by rw [decide_eq_decide]; omega
   have h2:decide ((c.toNat:Int)≤90)=decide (c.toNat≤90):=by rw [decide_eq_decide]; omega
   have h3:decide ((c.toNat:Int) ≥ 48)=decide (48≤c.toNat):=by rw [decide_eq_decide]; omega
   have h4:decide ((c.toNat:Int)≤57)=decide (c.toNat≤57):=by rw [decide_eq_decide]; omega
   have h5:((c.toNat:Int) == 95)=decide (c.toNat=95):=by
    rw [Bool.eq_iff_iff]; simp only [beq_iff_eq,decide_eq_true_eq]; omega
   rw [h0,h01,h1,h2,h3,h4,h5]
  rw [e]
  refine ift.of (fun h=>?_) (fun h=>?_)
  ·rw [hn,Qqi hm (by simpa using h)] at k; exact k
  ·rw [Qbl (by omega) (by omega)]
   refine ⟨⟨i+1,by omega,by omega,rfl,?_⟩,by first | omega | (dsimp only; omega)⟩
   rw [hat,ha]; simpa using h
 ·have hie : i = s.length := by have := of_decide_eq_false h; omega
  rw [hie,List.take_length] at ha
  rw [hn,ha] at k; exact k
end
end
section
open Go Go.Proofs
theorem index_spec (c:UInt8):∀ s:Str,(Lib.indexByte s c = -1∧c ∉ s)∨∃ k:Nat,Lib.indexByte s c=(k:Int)∧∃ a b,s=a++c::b∧a.length=k∧c ∉ a
 | []=>.inl ⟨rfl,by simp⟩
 | b::s=>by
  unfold Lib.indexByte
  by_cases h:b=c
  ·subst h
   exact .inr ⟨0,by simp,[],s,rfl,rfl,by simp⟩
  ·have hb : (b == c) = false := by simpa using h
   rw [hb]
   rcases index_spec c s with ⟨h1,h2⟩ | ⟨k,h1,a,d,h2,h3,h4⟩
   ·left
    rw [h1]
    refine ⟨by simp,by simp [h2,Ne.symm h]⟩
   ·right
    refine ⟨k+1,?_,b::a,d,by rw [h2]; rfl,by simp [h3],by simp [h4,Ne.symm h]⟩
    rw [h1]
    have:((k:Int) == -1)=false:=by rw [beq_eq_false_iff_ne]; omega
    simp [this]
def setD (cs:List Value) (l:Str):List Value:=l.foldl (fun cs c=>cs.set c.toNat (.bool true)) cs
def setD0:List Value:=List.replicate 256 (.bool false)
def digS:Str:=[48,49,50,51,52,53,54,55,56,57]
theorem QnQ (l:Str):∀ cs,(setD cs l).length=cs.length:=by
 induction l with
 | nil=>intro cs; rfl
 | cons c l ih=>intro cs; simp only [setD,List.foldl_cons] at ih ⊢; rw [ih]; simp
theorem Qpm (l:Str) (c:UInt8) (cs:List Value):setD cs (l++[c])=(setD cs l).set c.toNat (.bool true):=by simp [setD]
theorem Qqu (l:Str):∀ cs:List Value,cs.all Value.oneCell' = true→(setD cs l).all Value.oneCell' = true:=by
 induction l with
 | nil=>intro cs h; exact h
 | cons c l ih=>
  intro cs h
  simp only [setD,List.foldl_cons] at ih ⊢
  refine ih _ ?_
  rw [List.all_eq_true] at h ⊢
  intro x hx
  rcases List.mem_or_eq_of_mem_set hx with hx | rfl
  ·exact h x hx
  ·rfl
theorem Qqc:∀ n:Nat,n < 256→(match (setD setD0 digS)[n]? with | some (.bool b)=>b == (decide (48≤n) && decide (n≤57)) | _=>false)=true:=by decide +kernel
theorem Qqb (c:UInt8):(setD setD0 digS)[c.toNat]? = some (.bool (digC c)):=by
 have h:=Qqc c.toNat c.toBitVec.isLt
 unfold digC
 generalize (setD setD0 digS)[c.toNat]? = o at *
 cases o with
 | none=>simp at h
 | some v=>cases v <;> simp at h ⊢; exact h
section
variable {C:Ctx} {H:Heap}
theorem Qg1 {s p:Str} {K:Bool→Heap→Prop} (k:K (p.isPrefixOf s) H):Q2 C s p K H:=by
 apply Qdn
 unfold Qbg
 refine ⟨fun b H'=>H=H'∧b=p.isPrefixOf s,?_,?_⟩
 ·refine ift.of (fun h => ?_) (fun h => ⟨rfl, ?_⟩)
  ·have hl : p.length ≤ s.length := by have := of_decide_eq_true h; omega
   refine ⟨by omega,by omega,by omega,s.take p.length,by simp,rfl,?_⟩
   rw [Bool.eq_iff_iff,List.isPrefixOf_iff_prefix,beq_iff_eq,List.prefix_iff_eq_take]
   exact ⟨fun h=>h.symm,fun h=>h.symm⟩
  ·have hl:=of_decide_eq_false h
   cases hh:p.isPrefixOf s with
   | false=>rfl
   | true=>
    have:=(List.isPrefixOf_iff_prefix.1 hh).length_le
    omega
 ·rintro b _ ⟨rfl,rfl⟩
  exact k
theorem QlQ {s p:Str} {K:Str→Heap→Prop} (k:K (if p.isPrefixOf s then s.drop p.length else s) H):QcK C s p K H:=by
 apply QgP
 unfold QdS
 apply Qdl
 unfold Qa8
 refine Qg1 ?_
 refine ift.of (fun h=>?_) (fun h=>?_)
 ·rw [if_pos h] at k
  have:=(List.isPrefixOf_iff_prefix.1 h).length_le
  exact ⟨by omega,by omega,by omega,_,by simp,k⟩
 ·rw [if_neg (by rw [h]; decide)] at k; exact k
theorem QjD {s:Str} {K:Str→Str→Bool→Heap→Prop} (hs:s.length≤140737488355328) (k:match cutD s with | some (a,b)=>K a b true H | none=>K s [] false H):Qdq C s [46] K H:=by
 apply Qkp
 unfold QhL
 apply Qef
 unfold Qcv
 have key:∀ {K:Int→Heap→Prop},K (Lib.indexByte s 46) H→QaX C s [46] K H:=by
  intro K k
  apply QdU
  unfold QbT
  refine ift.of (fun h=>?_) (fun h=>?_)
  ·have hs : [46] = s := by simpa using h
   subst hs
   exact k
  ·refine QhZ rfl ⟨46, by omega, rfl, ?_⟩
   apply Qdo
   unfold Qbh
   exact k
 refine key ?_
 rcases index_spec 46 s with ⟨h1,h2⟩ | ⟨i,h1,a,b,h2,h3,h4⟩
 ·rw [h1]
  rw [QmK s h2] at k
  exact QhY rfl k
 ·rw [h1]
  subst h2
  rw [QmJ a b h4] at k
  subst h3
  simp only [List.length_append,List.length_cons] at hs
  refine QhZ (by rw [decide_eq_true_eq]; omega) ?_
  refine ⟨by omega,by omega,by simp; omega,a,by simp,?_⟩
  have e1:(([46]:Str).length:Int)=1:=rfl
  rw [e1,Qbl (by omega) (by omega)]
  refine ⟨by omega,by simp; omega,by omega,b,?_,k⟩
  have e2:((a.length:Int)+1).toNat=a.length+1:=by omega
  rw [List.take_of_length_le (by omega),e2,List.drop_append]
  simp
/-- the set of digits -/
def DSet (H:Heap) (b:Nat):Prop:=H b=some (true,.row (setD setD0 digS))
theorem QjB {b:Nat} {c:UInt8} {K:Bool→Heap→Prop} (h:DSet H b) (k:K (digC c) H):Qas C (some (b,0)) (c.toNat:Int) K H:=by
 apply Qeb
 unfold Qcf
 refine ⟨(b,0),rfl,by omega,by have:=c.toBitVec.isLt; have:c.toNat < 256:=this; omega,digC c,?_,k⟩
 rw [QaL h]
 have:=Qqb c
 simpa using this
theorem Qqe {b:Nat} {s:Str} {K:Str→Heap→Prop} (hs:s.length≤140737488355328) (h:DSet H b) (k:∀ t,t.length≤s.length→t.all digC=s.all digC→K t H):Qbv C s (some (b,0)) K H:=by
 apply QeW
 unfold QcX
 refine ⟨fun t H'=>H=H'∧t.length≤s.length∧t.all digC=s.all digC,?_,?_⟩
 rotate_left
 ·rintro t _ ⟨rfl,h1,h2⟩
  exact k t h1 h2
 refine ⟨fun t H'=>H=H'∧t.length≤s.length∧t.all digC=s.all digC,fun t _=>t.length,⟨rfl,Nat.le_refl _,rfl⟩,?_⟩
 rintro t _ ⟨rfl,h1,h2⟩
 refine ift.of (fun hh=>?_) (fun hh=>⟨rfl,h1,h2⟩)
 have hl:0 < t.length:=by have:=of_decide_eq_true hh; omega
 have hne:=List.ne_nil_of_length_pos hl
 have hd:t.dropLast++[t.getLast hne]=t:=List.dropLast_concat_getLast hne
 rw [Qbl (by omega) (by omega)]
 refine ⟨t.getLast hne,by omega,getL hl rfl,?_⟩
 refine QjB h ?_
 refine ift.of (fun hc=>⟨rfl,h1,h2⟩) (fun hc=>?_)
 have e1:(t.take ((t.length:Int) - 1).toNat).drop (0:Int).toNat=t.dropLast:=by
  have:((t.length:Int) - 1).toNat=t.length - 1:=by omega
  rw [this,List.dropLast_eq_take]; simp
 refine ⟨by omega,by omega,by omega,_,e1.symm,?_⟩
 have hdl:=List.length_dropLast (xs:=t)
 refine ⟨⟨rfl,by omega,?_⟩,by dsimp only; omega⟩
 rw [← h2]
 conv=>rhs; rw [← hd]
 rw [List.all_append]
 simp at hc
 simp [hc]
theorem Qqd {b:Nat} {s:Str} {K:Str→Heap→Prop} (hs:s.length≤140737488355328) (h:DSet H b) (k:∀ t,t.all digC=s.all digC→(t=[]∨t.all digC=false)→K t H):QbI C s (some (b,0)) K H:=by
 apply Qfl
 unfold Qde
 refine ⟨fun t H'=>H=H'∧t.all digC=s.all digC∧(t=[]∨t.all digC=false),?_,?_⟩
 rotate_left
 ·rintro t _ ⟨rfl,h1,h2⟩
  exact k t h1 h2
 refine ⟨fun t H'=>H=H'∧t.length≤s.length∧t.all digC=s.all digC,fun t _=>t.length,⟨rfl,Nat.le_refl _,rfl⟩,?_⟩
 rintro t _ ⟨rfl,h1,h2⟩
 cases t with
 | nil=>exact QhY rfl ⟨rfl,h2,.inl rfl⟩
 | cons c t=>
  refine QhZ (by rw [decide_eq_true_eq]; simp only [List.length_cons]; omega) ?_
  refine ⟨c,by omega,rfl,?_⟩
  refine QjB h ?_
  refine ift.of (fun hc=>⟨rfl,h2,.inr ?_⟩) (fun hc=>?_)
  ·simp at hc; simp [hc]
  ·refine ⟨by omega, by simp only [List.length_cons]; omega, by omega, t, ?_, ⟨rfl, by simp only [List.length_cons] at h1; omega, ?_⟩, by simp⟩
   ·rw [List.take_of_length_le (by omega)]; rfl
   ·rw [← h2]; simp at hc; simp [hc]
theorem QlE {K:List Value→Bool→Heap→Prop} (k:K (setD setD0 digS) true H):QY C digS K H:=by
 apply QY.gh
 apply QfY
 unfold Qdx
 intro b n
 refine ⟨fun x H'=>∃ i:Nat,x=(i:Int)∧i≤10∧H' = H.put b (.row (setD setD0 (digS.take i))),fun x _=>10 - x.toNat,⟨0,rfl,by omega,rfl⟩,?_⟩
 rintro x _ ⟨i,rfl,hi,rfl⟩
 have hlen:(setD setD0 (digS.take i)).length=256:=by rw [QnQ]; simp [setD0]
 refine ift.of (fun h=>?_) (fun h=>?_)
 ·have hlt : i < digS.length := by have := of_decide_eq_true h; omega
  have hlt':i < 10:=hlt
  refine ⟨digS[i],by omega,getE hlt,?_⟩
  have hm:∀ c ∈ digS,c.toNat < 128:=by decide
  have h128:=hm _ (List.getElem_mem hlt)
  have htk:digS.take (i+1)=digS.take i++[digS[i]]:=by rw [List.take_add_one,List.getElem?_eq_getElem hlt]; rfl
  generalize digS[i]=c at *
  refine QhY (by rw [decide_eq_false_iff_not]; omega) ?_
  refine ⟨by omega,by omega,_,Heap.put_same ..,by rw [hlen]; simp; omega,?_⟩
  rw [Qbl (by omega) (by omega),Heap.put_put]
  refine ⟨⟨i+1,by omega,by omega,?_⟩,by first | omega | (dsimp only; omega)⟩
  rw [htk,Qpm]
  have:(b,0).2+(c.toNat:Int).toNat*1=c.toNat:=by simp
  rw [this]
 ·have hi10 : i = 10 := by have := of_decide_eq_false h; have : digS.length = 10 := rfl; omega
  subst hi10
  have e:digS.take 10=digS:=rfl
  rw [e] at hlen ⊢
  have hr:∀ {B:Heap},B b=some (true,.row (setD setD0 digS))→rds B (b,0) (setD setD0 digS):=fun h=>Qev h fun j v hj=>by simpa using hj
  refine ⟨_,hlen,hr (Heap.put_same ..),hlen,Qqu _ _ (by decide +kernel),_,Heap.put_same ..,by simp,?_⟩
  have esp:splice (setD setD0 digS) (b,0).2 (setD setD0 digS)=setD setD0 digS:=by
   unfold splice; simp
  rw [esp,Heap.put_put]
  exact ⟨_,hlen,hr (Heap.put_same ..),H,Gh.le (Heap.le_put n),k⟩
theorem Qol {s:Str} {K:Str→Heap→Prop} (hs:s.length≤140737488355328) (k:∀ t,(t=[]↔s.all digC=true)→K t H):Qbj C s digS K H:=by
 apply Qbj.gh
 apply Qjp
 unfold Qhc
 refine ift.of (fun h=>?_) (fun h=>?_)
 ·have : s = [] := by simpa [digS] using h
  subst this
  exact ⟨H,Gh.refl _,k [] (by simp)⟩
 refine ⟨fun b H'=>H=H'∧b=false,QhY rfl ⟨rfl,rfl⟩,?_⟩
 rintro _ _ ⟨rfl,rfl⟩
 refine QhY rfl ?_
 refine QlE ?_
 intro b n
 have hlen:(setD setD0 digS).length=256:=by rw [QnQ]; simp [setD0]
 refine ⟨hlen,Qqu _ _ (by decide +kernel),_,Heap.put_same ..,by rw [hlen]; simp,?_⟩
 have esp:splice (List.replicate 256 (.bool false:Value)) (b,0).2 (setD setD0 digS)=setD setD0 digS:=by
  unfold splice; simp [hlen]
 rw [esp,Heap.put_put]
 refine QhZ rfl ?_
 refine Qqe hs (Heap.put_same ..) fun t ht1 ht2=>?_
 refine Qqd (by omega) (Heap.put_same ..) fun u hu1 hu2=>?_
 refine ⟨H,Gh.le (Heap.le_put n),k u ?_⟩
 rw [← ht2,← hu1]
 constructor
 ·rintro rfl; rfl
 ·intro h
  rcases hu2 with h2 | h2
  ·exact h2
  ·rw [h] at h2; cases h2
theorem Qkg {s:Str} {K:Int→Bool→Heap→Prop} (hs:s.length≤140737488355328) (k:K (if numS s then (digits s:Int) else 0) (numS s) H):Qe3 C s K H:=by
 apply Qjy
 unfold Qhl
 refine QlQ ?_
 have e:(if ([45]:Str).isPrefixOf s then s.drop ([45]:Str).length else s)=unmin s:=by
  unfold unmin
  cases s with
  | nil=>rfl
  | cons c t=>
   by_cases hc:c=45
   ·subst hc; simp [List.isPrefixOf]
   ·simp [List.isPrefixOf,hc,Ne.symm hc]
 rw [e]
 have hul:(unmin s).length≤s.length:=by unfold unmin; split <;> simp
 have hdg:digits s=(unmin s).length:=rfl
 have hnu:numS s=(!(unmin s).isEmpty && (unmin s).all digC && !(decide ((unmin s).head? = some 48) && decide (s≠[48]))):=rfl
 rw [hdg,hnu] at k
 clear hdg hnu e
 generalize unmin s=d at *
 refine ⟨fun b H'=>H=H'∧b=!(!d.isEmpty && d.all digC),?_,?_⟩
 ·refine ift.of (fun h => ⟨rfl, ?_⟩) (fun h => ?_)
  ·have : d = [] := by simpa using h
   subst this; rfl
  ·have hne : d ≠ [] := by simpa using h
   refine Qol (by omega) fun t ht=>⟨rfl,?_⟩
   have he : d.isEmpty = false := by cases d with
    | nil=>exact absurd rfl hne
    | cons _ _=>rfl
   rw [he]
   cases hd:d.all digC with
   | true=>rw [ht.2 hd]; rfl
   | false=>
    have:t≠[]:=fun e=>by rw [ht.1 e] at hd; cases hd
    simpa using this
 rintro b _ ⟨rfl,rfl⟩
 refine ⟨fun b H'=>H=H'∧b=!(!d.isEmpty && d.all digC && !(decide (d.head? = some 48) && decide (s≠[48]))),?_,?_⟩
 ·refine ift.of (fun h => ⟨rfl, ?_⟩) (fun h => ?_)
  ·simp only [Bool.not_eq_true'] at h
   rw [h]; rfl
  ·simp only [Bool.not_eq_false'] at h
   rw [h]
   cases d with
   | nil=>simp at h
   | cons c t=>
    refine ⟨c,by omega,rfl,rfl,?_⟩
    rw [e48]
    simp only [List.head?_cons,Option.some.injEq,Bool.true_and,Bool.not_not]
    congr 1
    rw [decide_not]; congr 1
    rw [Bool.eq_iff_iff]; simp
 rintro b _ ⟨rfl,rfl⟩
 refine ift.of (fun h=>?_) (fun h=>?_)
 ·simp only [Bool.not_eq_true'] at h
  rw [h] at k; exact k
 ·simp only [Bool.not_eq_false'] at h
  rw [h] at k; exact k
end
end
section
open Go Go.Proofs
section
variable {C:Ctx} {H:Heap}
theorem sEmpty {s:Str}:(s == ([]:Str))=s.isEmpty:=by cases s <;> rfl
theorem lenZ {l:List V} {n:Nat} (h:n=l.length) (m:Nat):((n:Int) == (m:Int))=decide (l.length=m):=by
 rw [Bool.eq_iff_iff]; simp only [beq_iff_eq,decide_eq_true_eq]; omega
end
end
section
open Go Go.Proofs
theorem QoX (s:Str):namesS s=(match cutD s with | some (a,b)=>nameS a && nameS b | none=>nameS s && !decide (s=trueS) && !decide (s=falseS)):=by
 unfold namesS
 by_cases ht:s=trueS
 ·subst ht; rfl
 by_cases hf:s=falseS
 ·subst hf; rfl
 rw [if_neg (fun h=>h.elim ht hf)]
 cases hc:cutD s with
 | none=>simp [ht,hf]
 | some p=>rfl
section
variable {C:Ctx} {H:Heap}
theorem Qq0 {v:V} {x:TV} {H:Heap} {K:Bool→Bool→Heap→Prop} (hv:VIs H v x) (hB:VB v) (k:∀ g,(formV v=true→g=fitsV v)→K (formV v) g H):Q7 C x K H:=by
 refine V.rec_ (P:=fun v=>∀ {x H} {K:Bool→Bool→Heap→Prop},VIs H v x→VB v→(∀ g,(formV v=true→g=fitsV v)→K (formV v) g H)→Q7 C x K H) (fun v ih=>?_) v hv hB k
 clear hv hB k
 intro x H K hv hB k
 apply Q7.gh
 apply Qib
 unfold QeR
 intro b1 n1
 have hr:=hv.row
 have hl:=hr.len
 have hbl:=hB.l
 have hbs:=hB.s
 have hk:=hv.kind
 have hn:=hv.num
 have ht:=hv.txt
 have hb1:(H.put b1 (.row (Qm.c x))) b1=some (true,.row (Qm.c x)):=Heap.put_same ..
 have hle1:=Heap.le_put n1 (g:=.row (Qm.c x)) (m:=true)
 generalize H.put b1 (.row (Qm.c x))=H1 at *
 refine bxN hb1 ?_
 refine ⟨fun b H'=>H1=H',?_,?_⟩
 ·exact ift.of (fun _=>bxS hb1 rfl) (fun _=>rfl)
 rintro _ _ rfl
 refine ⟨fun b H'=>H1=H',?_,?_⟩
 ·exact ift.of (fun _=>bxL hb1 rfl) (fun _=>rfl)
 rintro _ _ rfl
 refine ⟨fun b H'=>H1=H'∧b.1=okN v.k v.n v.s v.l.length∧(b.1=true→b.2=fitN v.k v.s v.l.length),?_,?_⟩
 rotate_left
 ·rintro ⟨o,g⟩ _ ⟨rfl,ho,hg⟩
  dsimp only at ho hg ⊢
  subst ho
  refine bxL hb1 ?_
  refine ⟨fun y H'=>∃ i:Nat,y.2.2=(i:Int)∧i≤v.l.length∧H.le H'∧y.1=(okN v.k v.n v.s v.l.length && formVs (v.l.take i))∧(y.1=true→y.2.1=(fitN v.k v.s v.l.length && fitsVs (v.l.take i))),fun y _=>v.l.length - y.2.2.toNat,⟨0,rfl,Nat.zero_le _,hle1,by simp [formVs],fun h=>by simp [fitsVs,hg h]⟩,?_⟩
  rintro ⟨f,g',y⟩ H2 ⟨i,hy,hi,hle,h1,h2⟩
  dsimp only at hy h1 h2
  subst hy
  dsimp only
  rw [hl]
  refine ift.of (fun h=>?_) (fun h=>?_)
  ·have hlt : i < v.l.length := by have := of_decide_eq_true h; omega
   have hmem:=List.getElem_mem hlt
   refine hr.ld hle rfl hlt fun z hz=>?_
   intro b20 n20
   refine ⟨_,Heap.put_same ..,by simp [Qm.c],?_⟩
   rw [Heap.put_put]
   have esp:splice (Qm.c Qm.zero) (b20,0).2 (Qm.c z)=Qm.c z:=rfl
   rw [esp]
   have hle2:=hle.trans (Heap.le_put n20 (g:=.row (Qm.c z)) (m:=true))
   refine bxV (Heap.put_same ..) ?_
   refine ih _ hmem (hz.le hle2) (hB.at hlt) fun q hq=>?_
   rw [Qbl (by omega) (by omega)]
   refine ⟨⟨i+1,by omega,by omega,hle2,?_,fun hh=>?_⟩,by first | omega | (dsimp only; omega)⟩
   ·rw [h1,QmV hlt,Bool.and_assoc]
   ·rw [Bool.and_eq_true] at hh
    rw [h2 hh.1,QmT hlt,hq hh.2,Bool.and_assoc]
  ·have hie : i = v.l.length := by have := of_decide_eq_false h; omega
   subst hie
   rw [List.take_length] at h1 h2
   rw [← QpQ] at h1
   rw [← QpP] at h2
   refine ⟨H,Gh.le hle,?_⟩
   rw [h1] at h2 ⊢
   exact k g' h2
 refine bxK hb1 ?_
 rw [hk]
 refine ift.of (fun h=>?_) (fun h=>?_)
 ·have h : v.k = 1 := by simpa using h
  have eo:okN v.k v.n v.s v.l.length=((v.n == 0 || v.n == 1) && v.s.isEmpty && decide (v.l.length=0)):=by rw [h]; rfl
  have ef:fitN v.k v.s v.l.length=true:=by rw [h]; rfl
  rw [eo,ef]
  refine bxN hb1 ?_
  refine ⟨fun b H'=>H1=H'∧b=(v.n == 0 || v.n == 1),?_,?_⟩
  ·rw [hn]
   refine ift.of (fun h=>⟨rfl,by rw [h]; rfl⟩) (fun h=>?_)
   refine bxN hb1 ⟨rfl,?_⟩
   rw [h,hn]; rfl
  rintro _ _ ⟨rfl,rfl⟩
  refine ⟨fun b H'=>H1=H'∧b=((v.n == 0 || v.n == 1) && v.s.isEmpty),?_,?_⟩
  ·refine ift.of (fun h => ?_) (fun h => ⟨rfl, by rw [h]; rfl⟩)
   refine bxS hb1 ⟨rfl,?_⟩
   rw [h,ht,sEmpty]; rfl
  rintro _ _ ⟨rfl,rfl⟩
  refine ⟨fun b H'=>H1=H'∧b=((v.n == 0 || v.n == 1) && v.s.isEmpty && decide (v.l.length=0)),?_,?_⟩
  ·refine ift.of (fun h => ?_) (fun h => ⟨rfl, by rw [h]; rfl⟩)
   refine bxL hb1 ⟨rfl,?_⟩
   rw [h]; exact lenZ hl 0
  rintro _ _ ⟨rfl,rfl⟩
  exact ⟨rfl,rfl,fun _=>rfl⟩
 have g1:v.k≠1:=by simpa using h
 refine ift.of (fun h=>?_) (fun h=>?_)
 ·have h : v.k = 2 := by simpa using h
  have eo:okN v.k v.n v.s v.l.length=(v.s.isEmpty && decide (v.l.length=0)):=by rw [h]; rfl
  have ef:fitN v.k v.s v.l.length=true:=by rw [h]; rfl
  rw [eo,ef]
  refine bxS hb1 ?_
  refine ⟨fun b H'=>H1=H'∧b=(v.s.isEmpty && decide (v.l.length=0)),?_,?_⟩
  ·rw [ht,sEmpty]
   refine ift.of (fun h=>?_) (fun h=>⟨rfl,by rw [h]; rfl⟩)
   refine bxL hb1 ⟨rfl,?_⟩
   rw [h]; exact lenZ hl 0
  rintro _ _ ⟨rfl,rfl⟩
  exact ⟨rfl,rfl,fun _=>rfl⟩
 have g2:v.k≠2:=by simpa using h
 refine ift.of (fun h=>?_) (fun h=>?_)
 ·have h : v.k = 3 := by simpa using h
  have eo:okN v.k v.n v.s v.l.length=(numS v.s && v.n == 0 && decide (v.l.length=0)):=by rw [h]; rfl
  have ef:fitN v.k v.s v.l.length=decide (digits v.s≤200):=by rw [h]; rfl
  rw [eo,ef]
  refine bxS hb1 ?_
  rw [ht]
  refine Qkg hbs ?_
  refine ⟨fun b H'=>H1=H'∧b=(numS v.s && v.n == 0),?_,?_⟩
  ·refine ift.of (fun h => ?_) (fun h => ⟨rfl, by rw [h]; rfl⟩)
   refine bxN hb1 ⟨rfl,?_⟩
   rw [h,hn]; rfl
  rintro _ _ ⟨rfl,rfl⟩
  refine ⟨fun b H'=>H1=H'∧b=(numS v.s && v.n == 0 && decide (v.l.length=0)),?_,?_⟩
  ·refine ift.of (fun h => ?_) (fun h => ⟨rfl, by rw [h]; rfl⟩)
   refine bxL hb1 ⟨rfl,?_⟩
   rw [h]; exact lenZ hl 0
  rintro _ _ ⟨rfl,rfl⟩
  refine ⟨rfl,rfl,fun hh=>?_⟩
  dsimp only at hh ⊢
  simp only [Bool.and_eq_true] at hh
  rw [hh.1.1,if_pos rfl,decide_eq_decide]; omega
 have g3:v.k≠3:=by simpa using h
 refine ift.of (fun h=>?_) (fun h=>?_)
 ·have h : v.k = 4 := by simpa using h
  have eo:okN v.k v.n v.s v.l.length=(v.n == 0 && decide (v.l.length=0)):=by rw [h]; rfl
  have ef:fitN v.k v.s v.l.length=decide (v.s.length≤4096):=by rw [h]; rfl
  rw [eo,ef]
  have ed:decide ((v.s.length:Int)≤4096)=decide (v.s.length≤4096):=by rw [decide_eq_decide]; omega
  refine ⟨fun b H'=>H1=H'∧b=((v.n == 0 && decide (v.l.length=0)),decide (v.s.length≤4096)),?_,?_⟩
  ·refine ⟨H1,Heap.le.refl _,bxN hb1 (bxS hb1 ?_)⟩
   rw [hn,ht,ed]
   refine ift.of (fun h=>?_) (fun h=>⟨rfl,by rw [h]; rfl⟩)
   refine bxL hb1 ⟨rfl,?_⟩
   rw [h,show ((x.L.len:Int) == 0)=decide (v.l.length=0) from lenZ hl 0]; rfl
  rintro _ _ ⟨rfl,rfl⟩
  exact ⟨rfl,rfl,fun _=>rfl⟩
 have g4:v.k≠4:=by simpa using h
 refine ift.of (fun h=>?_) (fun h=>?_)
 ·have h : v.k = 5 := by simpa using h
  have eo:okN v.k v.n v.s v.l.length=(v.n == 0 && v.s.isEmpty && decide (v.l.length≠1)):=by rw [h]; rfl
  have ef:fitN v.k v.s v.l.length=decide (v.l.length≤16):=by rw [h]; rfl
  rw [eo,ef]
  have ed:decide ((x.L.len:Int)≤16)=decide (v.l.length≤16):=by rw [decide_eq_decide]; omega
  refine ⟨fun b H'=>H1=H'∧b=((v.n == 0 && v.s.isEmpty && decide (v.l.length≠1)),decide (v.l.length≤16)),?_,?_⟩
  ·refine ⟨H1,Heap.le.refl _,bxN hb1 (bxL hb1 ?_)⟩
   rw [hn,ed]
   refine ift.of (fun h=>?_) (fun h=>⟨rfl,by rw [h]; rfl⟩)
   refine bxS hb1 ?_
   rw [ht,sEmpty]
   refine ift.of (fun h2=>?_) (fun h2=>⟨rfl,by rw [h2]; simp⟩)
   refine bxL hb1 ⟨rfl,?_⟩
   rw [h,h2,bne,show ((x.L.len:Int) == 1)=decide (v.l.length=1) from lenZ hl 1,decide_not]; rfl
  rintro _ _ ⟨rfl,rfl⟩
  exact ⟨rfl,rfl,fun _=>rfl⟩
 have g5:v.k≠5:=by simpa using h
 refine ift.of (fun h=>?_) (fun h=>?_)
 ·have h : v.k = 6 := by simpa using h
  have eo:okN v.k v.n v.s v.l.length=(v.n == 0 && namesS v.s):=by rw [h]; rfl
  have ef:fitN v.k v.s v.l.length=decide (v.l.length≤8):=by rw [h]; rfl
  rw [eo,ef]
  have ed:decide ((x.L.len:Int)≤8)=decide (v.l.length≤8):=by rw [decide_eq_decide]; omega
  refine bxS hb1 ?_
  rw [ht]
  refine QjD hbs ?_
  have key:∀ (a b:Str) (two:Bool),a.length≤140737488355328→b.length≤140737488355328→namesS v.s=(if two then nameS a && nameS b else nameS a && !decide (v.s=trueS) && !decide (v.s=falseS))→
   jn (α := Bool × Bool) (fun x118 H119 => H1 = H119 ∧ x118.1 = (v.n == 0 && namesS v.s) ∧ (x118.1 = true → x118.2 = decide (v.l.length ≤ 8)))
    (fun J117=>dr H1 fun Hs121=>
    ldI Hs121 .i64 ((b1,0).1,(b1,0).2+1) fun x123=>
    ldL Hs121 ((b1,0).1,(b1,0).2+3) fun x125=>
    ift ((x123:Int) == 0)
    (Qc4 C a (fun r129 H130=>
    Heap.le Hs121 H130∧
    ift r129
    (ift two
    (Qc4 C b (fun r134 H135=>
    Heap.le Hs121 H135∧
    ift r134
    (J117 (true,(decide (((Sl.len x125:Int):Int)≤8))) H135)
    (ift (!two)
    (ldS Hs121 ((b1,0).1,(b1,0).2+2) fun x138=>
    ift (!(x138 == ([116,114,117,101]:Str)))
    (ldS Hs121 ((b1,0).1,(b1,0).2+2) fun x141=>
    J117 ((!(x141 == ([102,97,108,115,101]:Str))),(decide (((Sl.len x125:Int):Int)≤8))) H135)
    (J117 (false,(decide (((Sl.len x125:Int):Int)≤8))) H135))
    (J117 (false,(decide (((Sl.len x125:Int):Int)≤8))) H135))) H130)
    (ift (!two)
    (ldS Hs121 ((b1,0).1,(b1,0).2+2) fun x144=>
    ift (!(x144 == ([116,114,117,101]:Str)))
    (ldS Hs121 ((b1,0).1,(b1,0).2+2) fun x147=>
    J117 ((!(x147 == ([102,97,108,115,101]:Str))),(decide (((Sl.len x125:Int):Int)≤8))) H130)
    (J117 (false,(decide (((Sl.len x125:Int):Int)≤8))) H130))
    (J117 (false,(decide (((Sl.len x125:Int):Int)≤8))) H130)))
    (J117 (false,(decide (((Sl.len x125:Int):Int)≤8))) H130)) H1)
    (J117 (false,(decide (((Sl.len x125:Int):Int)≤8))) H1)):=by
   intro a b two ha hb hns
   refine ⟨fun y H'=>H1=H'∧y=((v.n == 0 && namesS v.s),decide (v.l.length≤8)),?_,?_⟩
   ·refine ⟨H1,Heap.le.refl _,bxN hb1 (bxL hb1 ?_)⟩
    rw [hn,ed]
    refine ift.of (fun h=>?_) (fun h=>⟨rfl,by rw [h]; rfl⟩)
    refine QiF ha ⟨Heap.le.refl _,?_⟩
    rw [h,hns]
    refine ift.of (fun h2=>?_) (fun h2=>⟨rfl,by rw [h2]; cases two <;> rfl⟩)
    rw [h2]
    have eq:∀ t:Str,(v.s == t)=decide (v.s=t):=fun t=>by rw [Bool.eq_iff_iff]; simp
    cases two with
    | true=>
     refine QhZ rfl ?_
     refine QiF hb ⟨Heap.le.refl _,?_⟩
     exact ift.of (fun h3=>⟨rfl,by rw [h3]; rfl⟩) (fun h3=>QhY rfl ⟨rfl,by rw [h3]; rfl⟩)
    | false=>
     refine QhY rfl (QhZ rfl ?_)
     refine bxS hb1 ?_
     rw [ht,show (v.s == ([116,114,117,101]:Str))=decide (v.s=trueS) from eq _]
     refine ift.of (fun h3=>?_) (fun h3=>⟨rfl,?_⟩)
     ·refine bxS hb1 ⟨rfl,?_⟩
      rw [ht,show (v.s == ([102,97,108,115,101]:Str))=decide (v.s=falseS) from eq _,h3]; rfl
     ·rw [h3]; rfl
   ·rintro _ _ ⟨rfl,rfl⟩
    exact ⟨rfl,rfl,fun _=>rfl⟩
  have hc:=QoX v.s
  cases hcd:cutD v.s with
  | none=>
   rw [hcd] at hc
   exact key _ _ _ hbs (by simp) hc
  | some p=>
   obtain ⟨a,b⟩:=p
   rw [hcd] at hc
   have hlen:a.length≤v.s.length∧b.length≤v.s.length:=by
    by_cases hm:(46:UInt8) ∈ v.s
    ·obtain ⟨a',b',e1,e2⟩:=Qnn _ hm
     have:=QmJ a' b' e2
     rw [← e1,hcd] at this
     injection this with this; injection this with h1 h2
     subst h1; subst h2
     rw [e1]; simp; omega
    ·rw [QmK _ hm] at hcd; cases hcd
   exact key _ _ _ (by omega) (by omega) hc
 have g6:v.k≠6:=by simpa using h
 have eo:okN v.k v.n v.s v.l.length=false:=by unfold okN; rw [if_neg g1,if_neg g2,if_neg g3,if_neg g4,if_neg g5,if_neg g6]
 rw [eo]
 exact ⟨rfl,rfl,fun hh=>by cases hh⟩
theorem QkM {v:V} {x:TV} {H:Heap} {K:Int→Heap→Prop} (hv:VIs H v x) (hB:VB v) (k:K (checkV v) H):QbL C x K H:=by
 apply QbL.gh
 apply Qkx
 unfold QhT
 intro b1 n1
 have hb1:(H.put b1 (.row (Qm.c x))) b1=some (true,.row (Qm.c x)):=Heap.put_same ..
 have hle1:=Heap.le_put n1 (g:=.row (Qm.c x)) (m:=true)
 generalize H.put b1 (.row (Qm.c x))=H1 at *
 unfold checkV at k
 refine bxV hb1 (QkN (m:=65) (hv.le hle1) hB (by omega) fun r h0 h1 h2=>?_)
 refine ift.of (fun h=>?_) (fun h=>?_)
 ·have h:=of_decide_eq_true h
  rw [if_pos (by omega)] at k
  exact ⟨H,Gh.le hle1,k⟩
 have h:=of_decide_eq_false h
 rw [if_neg (by omega)] at k
 refine bxV hb1 (Qq0 (hv.le hle1) hB fun g hg=>?_)
 refine ift.of (fun h=>?_) (fun h=>?_)
 ·have h : formV v = false := by simpa using h
  rw [if_pos h] at k
  exact ⟨H,Gh.le hle1,k⟩
 have hf:formV v=true:=by simpa using h
 rw [if_neg (by rw [hf]; decide)] at k
 rw [hg hf]
 refine ift.of (fun h=>?_) (fun h=>?_)
 ·have h : fitsV v = false := by simpa using h
  rw [if_pos h] at k
  exact ⟨H,Gh.le hle1,k⟩
 have hf:fitsV v=true:=by simpa using h
 rw [if_neg (by rw [hf]; decide)] at k
 exact ⟨H,Gh.le hle1,k⟩
end
end
section
open Go Go.Proofs
section
variable {C:Ctx} {H:Heap}
end
end
section
open Go
section
variable {H:Type} {enc:TypeId×Value→H} {P:Program} {W:World}
/-- the type of values -/
structure ValT (P:Program) (t tl:TypeId):Prop where
 st:∃ fs:Array Field,P.underlying t=some (.struct fs)∧fs.size=4∧(∃ f tk,fs[0]? = some f∧f.type=tk∧f.offset=0∧P.underlying tk=some (.int .u8)∧P.cellsOf tk=1)∧(∃ f tk,fs[1]? = some f∧f.type=tk∧f.offset=1∧P.underlying tk=some (.int .i64)∧P.cellsOf tk=1)∧(∃ f tk,fs[2]? = some f∧f.type=tk∧f.offset=2∧P.underlying tk=some .string∧P.cellsOf tk=1)∧(∃ f,fs[3]? = some f∧f.type=tl∧f.offset=3∧P.cellsOf tl=1)
 cells:P.cellsOf t=4
 sl:P.underlying tl=some (.slice t)
end
end
section
open Go
section
variable {H:Type} {enc:TypeId×Value→H} {P:Program} {W:World}
end
end
section
open Go
end
section
open Go Go.Proofs
section
variable {C:Ctx} {H:Heap} {T:TypeId}
end
end
section
open Go Go.Proofs
section
variable {C:Ctx} {H:Heap}
/-- over A, of which b is not, the builder b holds bs -/
structure Wr (A B:Heap) (b:Nat) (bs:Str):Prop where
 le:A.le B
 nb:A b=none
 bl:IsB tyB tyE B b bs
/-- the two closures, each in the other's cell -/
structure Clo (C:Ctx) (A:Heap) (b p q:Nat):Prop where
 list:∃ x,rd A (p,0)=some x∧∀ (t:Sl) (B:Heap) (Φ:Value→Heap→Prop),QkA C t (b,0) (q,0) (fun D=>Φ (.tuple #[]) D) B→callU Tryz.prog C x [slv t] B Φ
 show_:∃ x,rd A (q,0)=some x∧∀ (v:TV) (B:Heap) (Φ:Value→Heap→Prop),QkB C v (b,0) (p,0) (fun D=>Φ (.tuple #[]) D) B→callU Tryz.prog C x [.agg (Qm.c v).toArray] B Φ
variable {A B:Heap} {b p q:Nat}
theorem Wr.base {A1 D:Heap} {bs:Str} (h:Wr A1 D b bs) (hle:A.le A1):Wr A D b bs:=⟨hle.trans h.le,hle.none h.nb,h.bl⟩
end
end
section
open Go
inductive TyV where
 | mk (n:Str) (a:List TyV)
inductive ExV where
 | mk (k:Int) (n:Str) (v:V) (a:List ExV)
structure LiV where
 k:Int
 r:Str
 a:List ExV
structure FdV where
 n:Str
 t:TyV
structure CnV where
 n:Str
 f:List FdV
structure TdV where
 p:Bool
 n:Str
 ps:List Str
 cs:List CnV
structure RdV where
 p:Bool
 i:Bool
 n:Str
 f:List FdV
structure RuV where
 r:Str
 a:List ExV
 g:List Str
 b:List LiV
structure NeV where
 n:Str
 b:List LiV
structure MoV where
 n:Str
 im:List Str
 ty:List TdV
 re:List RdV
 ru:List RuV
 ne:List NeV
def TyV.n:TyV→Str | .mk n _=>n
def TyV.a:TyV→List TyV | .mk _ a=>a
def ExV.k:ExV→Int | .mk k _ _ _=>k
def ExV.n:ExV→Str | .mk _ n _ _=>n
def ExV.v:ExV→V | .mk _ _ v _=>v
def ExV.a:ExV→List ExV | .mk _ _ _ a=>a
theorem TyV.rec_ {P:TyV→Prop} (h:∀ v,(∀ w ∈ v.a,P w)→P v):∀ v,P v
 | .mk n a=>h _ fun w hw=>by
  have:sizeOf w < sizeOf a:=List.sizeOf_lt_of_mem hw
  exact TyV.rec_ h w
termination_by v=>sizeOf v
decreasing_by simp_wf; have:sizeOf w < sizeOf a:=List.sizeOf_lt_of_mem hw; omega
theorem ExV.rec_ {P:ExV→Prop} (h:∀ v,(∀ w ∈ v.a,P w)→P v):∀ v,P v
 | .mk k n u a=>h _ fun w hw=>by
  have:sizeOf w < sizeOf a:=List.sizeOf_lt_of_mem hw
  exact ExV.rec_ h w
termination_by v=>sizeOf v
decreasing_by simp_wf; have:sizeOf w < sizeOf a:=List.sizeOf_lt_of_mem hw; omega
end
section
open Go Go.Proofs
/-- a text of what came in: not too long -/
def Nm (x n:Str):Prop:=x=n∧n.length≤140737488355328
/-- a list in memory -/
def SlIs {α β:Type} (R:α→β→Prop) (c:β→List Value) (A:Heap) (s:Sl) (l:List α):Prop:=
 ∃ xs:List β,rdsl A s (xs.flatMap c)∧s.len=xs.length∧l.length=xs.length∧l.length≤140737488355328∧∀ (i:Nat) (v:α) (x:β),l[i]? = some v→xs[i]? = some x→R v x
mutual
def TyIs (H:Heap):TyV→Qd→Prop
 | .mk n a,x=>Nm x.Name n∧∃ xs:List Qd,rdsl H x.Args (xs.flatMap Qd.c)∧x.Args.len=xs.length∧a.length≤140737488355328∧TysAre H a xs
def TysAre (H:Heap):List TyV→List Qd→Prop
 | [],[]=>True
 | v::l,x::xs=>TyIs H v x∧TysAre H l xs
 | [],_::_=>False
 | _::_,[]=>False
end
mutual
def ExIs (H:Heap):ExV→Qh→Prop
 | .mk k n v a,x=>x.Kind=k∧Nm x.Name n∧VIs H v x.Value_∧VB v∧∃ xs:List Qh,rdsl H x.Args (xs.flatMap Qh.c)∧x.Args.len=xs.length∧a.length≤140737488355328∧ExsAre H a xs
def ExsAre (H:Heap):List ExV→List Qh→Prop
 | [],[]=>True
 | v::l,x::xs=>ExIs H v x∧ExsAre H l xs
 | [],_::_=>False
 | _::_,[]=>False
end
theorem TysAre.iff {H:Heap}:∀ {l:List TyV} {xs:List Qd},TysAre H l xs↔l.length=xs.length∧∀ (i:Nat) (v:TyV) (x:Qd),l[i]? = some v→xs[i]? = some x→TyIs H v x
 | [],[]=>by simp [TysAre]
 | [],_::_=>by simp [TysAre]
 | _::_,[]=>by simp [TysAre]
 | v::l,x::xs=>by
  simp only [TysAre,TysAre.iff (l:=l) (xs:=xs),List.length_cons]
  constructor
  ·rintro ⟨h1,h2,h3⟩
   refine ⟨by omega,fun i v' x' hv hx=>?_⟩
   cases i with
   | zero=>simp at hv hx; subst hv; subst hx; exact h1
   | succ i=>exact h3 i v' x' (by simpa using hv) (by simpa using hx)
  ·rintro ⟨h1,h2⟩
   exact ⟨h2 0 v x rfl rfl,by omega,fun i v' x' hv hx=>h2 (i+1) v' x' (by simpa using hv) (by simpa using hx)⟩
theorem ExsAre.iff {H:Heap}:∀ {l:List ExV} {xs:List Qh},ExsAre H l xs↔l.length=xs.length∧∀ (i:Nat) (v:ExV) (x:Qh),l[i]? = some v→xs[i]? = some x→ExIs H v x
 | [],[]=>by simp [ExsAre]
 | [],_::_=>by simp [ExsAre]
 | _::_,[]=>by simp [ExsAre]
 | v::l,x::xs=>by
  simp only [ExsAre,ExsAre.iff (l:=l) (xs:=xs),List.length_cons]
  constructor
  ·rintro ⟨h1,h2,h3⟩
   refine ⟨by omega,fun i v' x' hv hx=>?_⟩
   cases i with
   | zero=>simp at hv hx; subst hv; subst hx; exact h1
   | succ i=>exact h3 i v' x' (by simpa using hv) (by simpa using hx)
  ·rintro ⟨h1,h2⟩
   exact ⟨h2 0 v x rfl rfl,by omega,fun i v' x' hv hx=>h2 (i+1) v' x' (by simpa using hv) (by simpa using hx)⟩
abbrev TyL (A:Heap):=SlIs (TyIs A) Qd.c A
abbrev ExL (A:Heap):=SlIs (ExIs A) Qh.c A
theorem QeI {H:Heap} {v:TyV} {x:Qd}:TyIs H v x↔Nm x.Name v.n∧TyL H x.Args v.a:=by
 obtain ⟨n,a⟩:=v
 simp only [TyIs,TyV.n,TyV.a,TyL,SlIs,TysAre.iff]
 constructor
 ·rintro ⟨h1,xs,h2,h3,h4,h5,h6⟩; exact ⟨h1,xs,h2,h3,h5,h4,h6⟩
 ·rintro ⟨h1,xs,h2,h3,h5,h4,h6⟩; exact ⟨h1,xs,h2,h3,h4,h5,h6⟩
theorem Qle {H:Heap} {v:ExV} {x:Qh}:ExIs H v x↔x.Kind=v.k∧Nm x.Name v.n∧VIs H v.v x.Value_∧VB v.v∧ExL H x.Args v.a:=by
 obtain ⟨k,n,u,a⟩:=v
 simp only [ExIs,ExV.k,ExV.n,ExV.v,ExV.a,ExL,SlIs,ExsAre.iff]
 constructor
 ·rintro ⟨h1,h2,h3,h4,xs,h5,h6,h7,h8,h9⟩; exact ⟨h1,h2,h3,h4,xs,h5,h6,h8,h7,h9⟩
 ·rintro ⟨h1,h2,h3,h4,xs,h5,h6,h8,h7,h9⟩; exact ⟨h1,h2,h3,h4,xs,h5,h6,h7,h8,h9⟩
def StL (A:Heap):Sl→List Str→Prop:=SlIs (fun (v:Str) (x:Str)=>Nm x v) (fun x=>[sv x]) A
def FdIs (A:Heap) (v:FdV) (x:Qf):Prop:=Nm x.Name v.n∧TyIs A v.t x.Type_
abbrev FdL (A:Heap):=SlIs (FdIs A) Qf.c A
def CnIs (A:Heap) (v:CnV) (x:Qc):Prop:=Nm x.Name v.n∧FdL A x.Fields v.f
abbrev CnL (A:Heap):=SlIs (CnIs A) Qc.c A
def TdIs (A:Heap) (v:TdV) (x:Qb):Prop:=x.Pub=v.p∧Nm x.Name v.n∧StL A x.Params v.ps∧CnL A x.Cons v.cs
abbrev TdL (A:Heap):=SlIs (TdIs A) Qb.c A
def RdIs (A:Heap) (v:RdV) (x:Qg):Prop:=x.Pub=v.p∧x.Input=v.i∧Nm x.Name v.n∧FdL A x.Fields v.f
abbrev RdL (A:Heap):=SlIs (RdIs A) Qg.c A
def LiIs (A:Heap) (v:LiV) (x:Qk):Prop:=x.Kind=v.k∧Nm x.Rel v.r∧ExL A x.Args v.a
abbrev LiL (A:Heap):=SlIs (LiIs A) Qk.c A
def RuIs (A:Heap) (v:RuV) (x:Qi):Prop:=Nm x.Rel v.r∧ExL A x.Args v.a∧StL A x.Aggs v.g∧LiL A x.Body v.b
abbrev RuL (A:Heap):=SlIs (RuIs A) Qi.c A
def NeIs (A:Heap) (v:NeV) (x:Ql):Prop:=Nm x.Name v.n∧LiL A x.Body v.b
abbrev NeL (A:Heap):=SlIs (NeIs A) Ql.c A
def ImIs (v:Str) (x:Qn):Prop:=Nm x.Name v
abbrev ImL (A:Heap):=SlIs ImIs Qn.c A
def MoIs (A:Heap) (v:MoV) (x:Qa):Prop:=Nm x.Name v.n∧ImL A x.Imports v.im∧TdL A x.Types v.ty∧RdL A x.Rels v.re∧RuL A x.Rules v.ru∧NeL A x.Nevers v.ne
section
variable {α β:Type} {R:α→β→Prop} {c:β→List Value} {A H:Heap} {s:Sl} {l:List α}
theorem SlIs.len (h:SlIs R c A s l):s.len=l.length:=by obtain ⟨xs,h1,h2,h3,_⟩:=h; omega
theorem SlIs.bd (h:SlIs R c A s l):l.length≤140737488355328:=by obtain ⟨xs,h1,h2,h3,h4,_⟩:=h; exact h4
theorem SlIs.at_ (h:SlIs R c A s l) (hle:A.le H) {z:Nat} (hz:∀ x,(c x).length=z) (hz0:0 < z) {i:Nat} {x:Int} {K:Nat×Nat→Prop} (hx:x=i) (hi:i < l.length) (k:∀ p y,R l[i] y→(∀ j v,(c y)[j]? = some v→rd H (p.1,p.2+x.toNat*z+j)=some v)→K p):ixa s x K:=by
 obtain ⟨xs,h1,h2,h3,_,h4⟩:=h
 have hi2:i < xs.length:=by omega
 have hg:=List.getElem?_eq_getElem hi2
 subst hx
 refine Qqm (QiT hle h1) (by omega) (by omega) (fun e=>?_) fun p _ hp=>k p xs[i] (h4 i _ _ (List.getElem?_eq_getElem hi) hg) fun j v hj=>?_
 ·have := Qik c z hz xs i _ hg 0 ((c xs[i])[0]'(by rw [hz]; exact hz0)) (by rw [List.getElem?_eq_getElem])
  rw [e] at this; simp at this
 ·have:=Qh5 hp _ _ (Qik c z hz xs i _ hg j v hj)
  have e0:(i:Int).toNat=i:=by omega
  rw [e0,Nat.add_assoc]; exact this
theorem SlIs.ld (h:SlIs R c A s l) (hle:A.le H) {z:Nat} (hz:∀ x,(c x).length=z) (hz0:0 < z) {i:Nat} {x:Int} {K:β→Prop} (hx:x=i) (hi:i < l.length) (k:∀ y,R l[i] y→K y):ixa s x fun p=>ldT H c (p.1,p.2+x.toNat*z) K:=
 h.at_ hle hz hz0 hx hi fun p y hy hr=>⟨y,QiY fun j v hj=>hr j v hj,k y hy⟩
end
section
variable {α β:Type} {R R2:α→β→Prop} {c:β→List Value} {A B:Heap} {s:Sl} {l:List α}
theorem SlIs.le (hle:A.le B) (h:SlIs R c A s l) (hR:∀ v ∈ l,∀ x,R v x→R2 v x):SlIs R2 c B s l:=by
 obtain ⟨xs,h1,h2,h3,h4,h5⟩:=h
 exact ⟨xs,QiT hle h1,h2,h3,h4,fun i v x hv hx=>hR v (List.mem_of_getElem? hv) x (h5 i v x hv hx)⟩
end
theorem TyIs.le {A B:Heap} (hle:A.le B):∀ v:TyV,∀ x,TyIs A v x→TyIs B v x:=by
 refine TyV.rec_ fun v ih x h=>?_
 rw [QeI] at h ⊢
 exact ⟨h.1,h.2.le hle ih⟩
section
variable {A B:Heap} (hle:A.le B)
include hle
theorem StL.le {s:Sl} {l:List Str} (h:StL A s l):StL B s l:=SlIs.le hle h fun _ _ _ h=>h
theorem FdIs.le {v:FdV} {x} (h:FdIs A v x):FdIs B v x:=⟨h.1,TyIs.le hle _ _ h.2⟩
theorem CnIs.le {v:CnV} {x} (h:CnIs A v x):CnIs B v x:=⟨h.1,h.2.le hle fun _ _ _ h=>FdIs.le hle h⟩
end
end
section
open Go Go.Proofs
section
variable {C:Ctx} {H:Heap}
theorem box2 {cx cy:List Value} {K:Nat→Nat→Heap→Prop} (k:∀ b1 b3 H4,H.le H4→H4 b1=some (true,.row cx)→H4 b3=some (true,.row cy)→K b1 b3 H4):nw cx (fun b1 H2=>nw cy (fun b3 H4=>K b1 b3 H4) H2) H:=by
 intro b1 n1 b3 n3
 have ne:b1≠b3:=fun e=>by rw [e,Heap.put_same] at n3; cases n3
 exact k b1 b3 _ ((Heap.le_put n1).trans (Heap.le_put n3)) (by rw [Heap.put_ne _ _ _ ne,Heap.put_same]) (Heap.put_same ..)
theorem nwT {b:Nat} {cx c0:List Value} {K:Heap→Prop} (hl:cx.length=c0.length) (k:K (H.put b (.row cx))):stT (b,0) cx K (H.put b (.row c0)):=by
 refine ⟨_,Heap.put_same ..,by rw [hl]; simp,?_⟩
 rw [Heap.put_put]
 have e:splice c0 (b,0).2 cx=cx:=by
  unfold splice
  rw [List.take_zero,List.nil_append,List.drop_of_length_le (by rw [hl]; simp),List.append_nil]
 rw [e]; exact k
theorem bxT {β:Type} {c:β→List Value} {b:Nat} {m:Bool} {x:β} {K:β→Prop} (h:H b=some (m,.row (c x))) (k:K x):ldT H c (b,0) K:=⟨x,Qev h fun j v hj=>by rw [Nat.zero_add]; exact hj,k⟩
theorem fS {b j:Nat} {m:Bool} {cs:List Value} {t:Str} {K:Str→Prop} (h:H b=some (m,.row cs)) (hj:cs[j]? = some (sv t)) (k:K t):ldS H ((b,0).1,(b,0).2+j) K:=⟨t,by rw [QaL h,Nat.zero_add]; exact hj,k⟩
theorem fI {b j:Nat} {m:Bool} {cs:List Value} {q:IntKind} {t:Int} {K:Int→Prop} (h:H b=some (m,.row cs)) (hj:cs[j]? = some (.int q t)) (k:K t):ldI H q ((b,0).1,(b,0).2+j) K:=⟨t,by rw [QaL h,Nat.zero_add]; exact hj,k⟩
theorem fB {b j:Nat} {m:Bool} {cs:List Value} {t:Bool} {K:Bool→Prop} (h:H b=some (m,.row cs)) (hj:cs[j]? = some (.bool t)) (k:K t):ldB H ((b,0).1,(b,0).2+j) K:=⟨t,by rw [QaL h,Nat.zero_add]; exact hj,k⟩
theorem fL {b j:Nat} {m:Bool} {cs:List Value} {t:Sl} {K:Sl→Prop} (h:H b=some (m,.row cs)) (hj:cs[j]? = some (slv t)) (k:K t):ldL H ((b,0).1,(b,0).2+j) K:=⟨t,by rw [QaL h,Nat.zero_add]; exact hj,k⟩
theorem fT {β:Type} {c:β→List Value} {b j:Nat} {m:Bool} {cs:List Value} {x:β} {K:β→Prop} (h:H b=some (m,.row cs)) (hj:∀ i v,(c x)[i]? = some v→cs[j+i]? = some v) (k:K x):ldT H c ((b,0).1,(b,0).2+j) K:=⟨x,Qev h fun i v hi=>by rw [Nat.zero_add]; exact hj i v hi,k⟩
theorem cu {P:Program} {f:FuncId} {vs:List Value} {Φ:Value→Heap→Prop} (hok:CallOk P f) (h:Spec P C f vs H Φ):callU P C (.func (.func f) (List.toArray []) (List.toArray [])) vs H Φ:=⟨f,[],[],rfl,hok,by simpa using h⟩
end
section
variable {α β:Type} {R:α→β→Prop} {c:β→List Value} {A H:Heap} {s:Sl} {l:List α} {z:Nat} {i j:Nat} {x:Int}
end
section
variable {C:Ctx} {H:Heap}
variable {α:Type} {A:Heap} {s t:Sl} {l m:List α} {e:Value} {K:Bool→Heap→Prop}
theorem Qoa (x:Qn):(Qn.c x).length=3:=rfl
theorem QjR (x:Qb):(Qb.c x).length=6:=rfl
theorem QjP (x:Qc):(Qc.c x).length=2:=rfl
theorem QiW (x:Qf):(Qf.c x).length=3:=rfl
theorem QkY (x:Qg):(Qg.c x).length=6:=rfl
theorem Qnz (x:Qi):(Qi.c x).length=6:=rfl
theorem Qlz (x:Qh):(Qh.c x).length=9:=rfl
theorem QjQ (x:Qk):(Qk.c x).length=5:=rfl
theorem Qmh (x:Ql):(Ql.c x).length=4:=rfl
theorem QnA (x:Qd):(Qd.c x).length=2:=rfl
end
end
section
open Go
def resW:List Str:=[[109,111,100,117,108,101],[105,109,112,111,114,116],[112,117,98],[116,121,112,101],[105,110,112,117,116],[114,101,108],[110,101,118,101,114],[110,111,116],[97,110,100],[111,114],[105,102],[116,104,101,110],[101,108,115,101],[116,114,117,101],[102,97,108,115,101],[99,111,117,110,116],[115,117,109],[109,105,110],[109,97,120],[110,101,103],[108,101,110],[98,105,103],[105,110,116],[98,111,111,108],[116,101,120,116],[116,117,112,108,101]]
def namS (s:Str):Bool:=nameS s && !resW.contains s
def longS (s:Str):Bool:=match cutD s with
 | some (a,b)=>namS a && namS b
 | none=>namS s
def upC (c:UInt8):Bool:=decide (65≤c.toNat) && decide (c.toNat≤90)
def varS (s:Str):Bool:=!s.isEmpty && decide (s.length≤32) && upC (s.headD 0) && s.all nameC
def parS (s:Str):Bool:=match s with
 | c::t=>decide (c=39) && namS t
 | []=>false
def tupS:Str:=[116,117,112,108,101]
def boolS:Str:=[98,111,111,108]
def intS:Str:=[105,110,116]
def bigS:Str:=[98,105,103]
def textS:Str:=[116,101,120,116]
def negS:Str:=[110,101,103]
def lenS:Str:=[108,101,110]
def notS:Str:=[110,111,116]
def funB (s:Str):Bool:=decide (s=negS∨s=lenS∨s=bigS∨s=intS)
def opsW:List Str:=[[43],[45],[42],[47],[37],[43,43],[61,61],[33,61],[60],[60,61],[62],[62,61],[97,110,100],[111,114]]
def arS (s:Str):Nat:=if opsW.contains s then 2 else if s=notS∨funB s=true then 1 else 0
mutual
def tyD:TyV→Nat
 | .mk _ a=>tysD a+1
def tysD:List TyV→Nat
 | []=>0
 | v::l=>max (tyD v) (tysD l)
end
mutual
def exD:ExV→Nat
 | .mk _ _ _ a=>exsD a+1
def exsD:List ExV→Nat
 | []=>0
 | v::l=>max (exD v) (exsD l)
end
/-- the greatest of a list -/
def mxL {α:Type} (f:α→Nat):List α→Nat
 | []=>0
 | v::l=>max (f v) (mxL f l)
def fdsD (l:List FdV):Nat:=mxL (fun f=>tyD f.t) l
def liD (x:LiV):Nat:=exsD x.a
def lisD (l:List LiV):Nat:=mxL liD l
def tdD (t:TdV):Nat:=mxL (fun c:CnV=>fdsD c.f) t.cs
def ruD (r:RuV):Nat:=max (exsD r.a) (lisD r.b)
def moD (m:MoV):Nat:=max (max (mxL tdD m.ty) (mxL (fun r:RdV=>fdsD r.f) m.re)) (max (mxL ruD m.ru) (mxL (fun n:NeV=>lisD n.b) m.ne))
def tyN (n:Str) (m:Nat):Bool:=
 if n=boolS∨n=intS∨n=bigS∨n=textS then decide (m=0)
 else if n=tupS then decide (m≠1) && decide (m≤16)
 else (parS n && decide (m=0)) || (longS n && decide (m≤8))
mutual
def tyOk:TyV→Bool
 | .mk n a=>tyN n a.length && tysOk a
def tysOk:List TyV→Bool
 | []=>true
 | v::l=>tyOk v && tysOk l
end
def exN (p:Bool) (k:Int) (n:Str) (m:Nat):Bool:=
 if k=2 then varS n && decide (m=0)
 else if k=3 then p && n.isEmpty && decide (m=0)
 else if k=4 then n.isEmpty && decide (m≠1) && decide (m≤16)
 else if k=5 then longS n && decide (m≤8)
 else if k=6 then !p && decide (0 < arS n) && decide (m=arS n)
 else if k=7 then !p && namS n && decide (m=1)
 else if k=8 then !p && n.isEmpty && decide (m=3)
 else false
def noV (v:V):Bool:=decide (v.k=0) && decide (v.n=0) && v.s.isEmpty && decide (v.l.length=0)
def litV (v:V):Bool:=decide (1≤v.k) && decide (v.k≤4) && mayV v
mutual
def exOk:Bool→ExV→Bool
 | p,.mk k n v a=>if k=1 then litV v && decide (a.length=0) && n.isEmpty else exN p k n a.length && noV v && exsOk p a
def exsOk:Bool→List ExV→Bool
 | _,[]=>true
 | p,v::l=>exOk p v && exsOk p l
end
def liOk (x:LiV):Bool:=
 if x.k=1∨x.k=2 then longS x.r && decide (x.a.length≤8) && exsOk true x.a
 else if x.k=3 then x.r.isEmpty && decide (x.a.length=1) && exsOk false x.a
 else if x.k=4 then varS x.r && decide (x.a.length=1) && exsOk false x.a
 else false
def fdOk (nm:Bool) (f:FdV):Bool:=(namS f.n || (!nm && f.n.isEmpty)) && tyOk f.t
def fdsOk (nm:Bool) (l:List FdV):Bool:=decide (l.length≤8) && l.all (fdOk nm)
def cnOk (c:CnV):Bool:=namS c.n && fdsOk false c.f
def tdOk (t:TdV):Bool:=namS t.n && decide (t.ps.length≤8) && t.ps.all parS && decide (1≤t.cs.length) && decide (t.cs.length≤16) && t.cs.all cnOk
def rdOk (r:RdV):Bool:=namS r.n && fdsOk true r.f
def countS:Str:=[99,111,117,110,116]
def sumS:Str:=[115,117,109]
def minS:Str:=[109,105,110]
def maxS:Str:=[109,97,120]
def agOk (s:Str):Bool:=decide (s=[]∨s=countS∨s=sumS∨s=minS∨s=maxS)
def ruOk (r:RuV):Bool:=longS r.r && decide (r.a.length≤8) && decide (r.g.length=r.a.length) && exsOk false r.a && r.b.all liOk && r.g.all agOk
def neOk (n:NeV):Bool:=namS n.n && decide (0 < n.b.length) && n.b.all liOk
def moOk (m:MoV):Bool:=namS m.n && m.im.all namS && m.ty.all tdOk && m.re.all rdOk && m.ru.all ruOk && m.ne.all neOk
def moFew (m:MoV):Bool:=decide (m.im.length≤8) && decide (m.ty.length≤64) && decide (m.re.length≤64) && decide (m.ru.length≤256) && decide (m.ne.length≤256) && m.ru.all (fun r=>decide (r.b.length≤12)) && m.ne.all (fun n=>decide (n.b.length≤12))
def moC (m:MoV):Int:=if moD m > 64 then 65 else if moOk m=false then 4 else if moFew m=false then 3 else 0
/-- a comma and a blank between each two -/
def cm:Nat→Str
 | 0=>[]
 | _+1=>[44,32]
end
section
open Go
/-- words, with blanks between and around -/
def blk (W:List Str):Str:=32::W.flatMap (·++[32])
theorem Qln (w:Str) (W:List Str):blk (w::W)=32::(w++blk W):=by simp [blk]
theorem first32:∀ {a b x y:Str},(32:UInt8) ∉ a→(32:UInt8) ∉ b→a++32::x=b++32::y→a=b
 | [],[],_,_,_,_,_=>rfl
 | [],c::b,x,y,_,h2,h=>by
  simp only [List.nil_append,List.cons_append] at h; injection h with h _; subst h; simp at h2
 | c::a,[],x,y,h1,_,h=>by
  simp only [List.nil_append,List.cons_append] at h; injection h with h _; subst h; simp at h1
 | c::a,d::b,x,y,h1,h2,h=>by
  simp only [List.cons_append] at h; injection h with h h'
  subst h
  rw [first32 (fun hm=>h1 (List.mem_cons_of_mem _ hm)) (fun hm=>h2 (List.mem_cons_of_mem _ hm)) h']
theorem Qov {s:Str} (hs:(32:UInt8) ∉ s):∀ {W:List Str},(∀ w ∈ W,(32:UInt8) ∉ w)→∀ {a b:Str},blk W=a++32::(s++32::b)→s ∈ W
 | [],_,a,b,h=>by
  have:=congrArg List.length h
  simp [blk] at this; omega
 | w::W,hW,a,b,h=>by
  rw [Qln] at h
  have hw:=hW w (List.mem_cons_self ..)
  have ih:=fun {a b}=>Qov hs (W:=W) (fun w h=>hW w (List.mem_cons_of_mem _ h)) (a:=a) (b:=b)
  cases a with
  | nil=>
   simp only [List.nil_append] at h; injection h with _ h
   have:w++32::(W.flatMap (·++[32]))=s++32::b:=h
   rw [first32 hw hs this]; exact List.mem_cons_self ..
  | cons c a=>
   simp only [List.cons_append] at h; injection h with _ h
   refine List.mem_cons_of_mem _ ?_
   rcases List.append_eq_append_iff.1 h with ⟨a',e1,e2⟩ | ⟨c',e1,e2⟩
   ·exact ih e2
   ·cases c' with
    | nil=>exact ih (a:=[]) e2.symm
    | cons c c'=>
     simp only [List.cons_append] at e2; injection e2 with e2 _
     exact absurd (by rw [e1,← e2]; simp) hw
theorem Qou {s:Str}:∀ {W:List Str},s ∈ W→∃ a b,blk W=a++32::(s++32::b)
 | w::W,h=>by
  rcases List.mem_cons.1 h with rfl | h
  ·exact ⟨[],W.flatMap (·++[32]),by rw [Qln]; rfl⟩
  ·obtain ⟨a,b,e⟩:=Qou h
   exact ⟨32::(w++a),b,by rw [Qln,e]; simp⟩
theorem Ql4 {s t:Str}:Lib.contains s t=true ↔ ∃ a b,s=a++(t++b):=by
 unfold Lib.contains
 rw [decide_eq_true_eq]
 constructor
 ·intro h
  rcases Lib.index_spec s t with ⟨h1,_⟩ | ⟨i,h1,h2,h3,_⟩
  ·omega
  ·unfold Lib.occAt at h3
   obtain ⟨b,hb⟩:=List.isPrefixOf_iff_prefix.1 h3
   exact ⟨s.take i,b,by rw [hb,List.take_append_drop]⟩
 ·rintro ⟨a,b,e⟩
  rcases Lib.index_spec s t with ⟨_,h2⟩ | ⟨i,h1,_⟩
  ·have := h2 a.length (by rw [e]; simp)
   unfold Lib.occAt at this
   rw [e,List.drop_left] at this
   have hp:t.isPrefixOf (t++b)=true:=List.isPrefixOf_iff_prefix.2 ⟨b,rfl⟩
   rw [hp] at this; cases this
  ·omega
theorem Qrh:∀ w ∈ resW,(32:UInt8) ∉ w:=by decide
theorem QrR {s:Str} (hs:s.all nameC=true):Lib.contains (blk resW) (([32]++s)++[32])=resW.contains s:=by
 have h32:(32:UInt8) ∉ s:=fun h=>by
  have:=List.all_eq_true.1 hs _ h
  exact absurd this (by decide)
 rw [Bool.eq_iff_iff,Ql4,List.contains_iff_mem]
 constructor
 ·rintro ⟨a,b,e⟩
  exact Qov h32 Qrh (a:=a) (b:=b) (by rw [e]; simp)
 ·intro h
  obtain ⟨a,b,e⟩:=Qou h
  exact ⟨a,b,by rw [e]; simp⟩
theorem QqG:blk resW=[32,109,111,100,117,108,101,32,105,109,112,111,114,116,32,112,117,98,32,116,121,112,101,32,105,110,112,117,116,32,114,101,108,32,110,101,118,101,114,32,110,111,116,32,97,110,100,32,111,114,32,105,102,32,116,104,101,110,32,101,108,115,101,32,116,114,117,101,32,102,97,108,115,101,32,99,111,117,110,116,32,115,117,109,32,109,105,110,32,109,97,120,32,110,101,103,32,108,101,110,32,98,105,103,32,105,110,116,32,98,111,111,108,32,116,101,120,116,32,116,117,112,108,101,32]:=rfl
theorem Qlp:∀ {s a b:Str},cutD s=some (a,b)→a.length≤s.length∧b.length≤s.length
 | [],a,b,h=>by simp [cutD] at h
 | c::t,a,b,h=>by
  simp only [cutD] at h
  by_cases hc:c=46
  ·rw [if_pos hc] at h; injection h with h; injection h with h1 h2; subst h1; subst h2; simp
  ·rw [if_neg hc] at h
   cases ht:cutD t with
   | none=>rw [ht] at h; simp at h
   | some p=>
    rw [ht] at h; simp at h
    obtain ⟨rfl,rfl⟩:=h
    have:=Qlp (s:=t) (a:=p.1) (b:=p.2) ht
    simp only [List.length_cons]; omega
end
section
open Go Go.Proofs
theorem Qk1 {α:Type} (f:α→Nat):∀ (a b:List α),mxL f (a++b)=max (mxL f a) (mxL f b)
 | [],b=>by simp [mxL]
 | v::a,b=>by simp only [List.cons_append,mxL,Qk1 f a b]; omega
theorem QpW {α:Type} {f:α→Nat} {l:List α} {i:Nat} (h:i < l.length):mxL f (l.take (i+1))=max (mxL f (l.take i)) (f l[i]):=by
 rw [List.take_add_one,List.getElem?_eq_getElem h,Option.toList_some,Qk1]; simp [mxL]
theorem QhD {α:Type} {f:α→Nat} {l:List α} {v:α} (h:v ∈ l):f v≤mxL f l:=by
 induction l with
 | nil=>cases h
 | cons a l ih=>
  simp only [mxL]
  rcases List.mem_cons.1 h with rfl | h
  ·omega
  ·have:=ih h; omega
theorem allTake {α:Type} {f:α→Bool} {l:List α} {i:Nat} (h:i < l.length):(l.take (i+1)).all f=((l.take i).all f && f l[i]):=by
 rw [List.take_add_one,List.getElem?_eq_getElem h,Option.toList_some,List.all_append]; simp
theorem allNo {α:Type} {f:α→Bool} {l:List α} {i:Nat} (h:i < l.length) (hf:f l[i]=false):l.all f=false:=by
 cases hh:l.all f with
 | false=>rfl
 | true=>rw [List.all_eq_true.1 hh _ (List.getElem_mem h)] at hf; cases hf
/-- over A, of which b is not, the writer b holds bs -/
abbrev tyW:TypeId:=147
structure Ww (A B:Heap) (b:Nat) (bs:Str):Prop where
 le:A.le B
 nb:A b=none
 bl:IsB tyW tyE B b bs
section
variable {C:Ctx} {H:Heap} {α:Type}
variable {β:Type} {R:α→β→Prop} {c:β→List Value} {zc:List Value} {z:Nat} {A B:Heap} {s:Sl} {l:List α} {e:Value} {d:α→Nat} {ok:α→Bool} {f:α→Str} {sep t:Str} {b:Nat}
abbrev HeD (C:Ctx) (A:Heap) {α β:Type} (R:α→β→Prop) (c:β→List Value) (l:List α) (e:Value) (d:α→Nat):Prop:=∀ v ∈ l,∀ (x:β) (D:Heap) (Φ:Int→Heap→Prop),A.le D→R v x→Φ (d v) D→callU Tryz.prog C e [.agg (c x).toArray] D (fun v H31=>∃ r30:Int,v=.int .i64 r30∧Φ r30 H31)
abbrev HeB (C:Ctx) (A:Heap) {α β:Type} (R:α→β→Prop) (c:β→List Value) (l:List α) (e:Value) (ok:α→Bool):Prop:=∀ v ∈ l,∀ (x:β) (D:Heap) (Φ:Bool→Heap→Prop),A.le D→R v x→Φ (ok v) D→callU Tryz.prog C e [.agg (c x).toArray] D (fun v H31=>∃ r30:Bool,v=.bool r30∧Φ r30 H31)
theorem dpG {K:Int→Heap→Prop} (hz:∀ x,(c x).length=z) (hz0:0 < z) (hzc:zc.length=z) (hs:SlIs R c A s l) (hA:A.le H) (he:HeD C A R c l e d) (k:∀ D,H.le D→K (mxL d l) D) :
 lp (α:=Int×Int) (0,0) H (fun x1 J2 H3=>ift (decide ((x1.2:Int) < (Sl.len s:Int))) (ixa s x1.2 fun p5=>ldT H3 c (p5.1,p5.2+(x1.2:Int).toNat*z) fun x10=>nw zc (fun b12 H13=>stT (b12,0) (c x10) (fun H14=>ldT H14 c (b12,0) fun x15=>callU Tryz.prog C e [.agg (c x15).toArray] H14 (fun v H18=>∃ (r17:Int),v=.int .i64 r17∧J2 ((if r17 > x1.1 then r17 else x1.1:Int),(w .i64 (x1.2+1))) H18)) H13) H3) (K x1.1 H3)):=by
 have hlen:=SlIs.len hs
 have hbd:=SlIs.bd hs
 refine ⟨fun y D=>H.le D∧∃ i:Nat,y=(((mxL d (l.take i):Nat):Int),(i:Int))∧i≤l.length,fun y _=>l.length - y.2.toNat,⟨Heap.le.refl _,0,rfl,Nat.zero_le _⟩,?_⟩
 rintro _ D ⟨hD,i,rfl,hi⟩
 rw [hlen]
 refine ift.of (fun h=>?_) (fun h=>?_)
 ·have hlt : i < l.length := by have := of_decide_eq_true h; dsimp only at this; omega
  refine SlIs.ld hs (hA.trans hD) hz hz0 rfl hlt fun x hx=>?_
  intro b n13
  refine nwT (by rw [hz,hzc]) ?_
  have l13:=Heap.le_put n13 (g:=.row (c x)) (m:=true)
  refine bxT (c:=c) (Heap.put_same ..) (he _ (List.getElem_mem hlt) x _ _ ((hA.trans hD).trans l13) hx ?_)
  dsimp only
  rw [Qbl (by omega) (by omega)]
  refine ⟨⟨hD.trans l13,i+1,?_,by omega⟩,by first | omega | (dsimp only; omega)⟩
  rw [QpW hlt]
  refine Prod.ext ?_ (by dsimp only; omega)
  dsimp only
  split <;> omega
 ·have hie : i = l.length := by have := of_decide_eq_false h; dsimp only at this; omega
  subst hie
  rw [List.take_length]
  exact k D hD
theorem alG {K : Int → Heap → Prop} {F : Value} {b1 : Nat} (hz : ∀ x, (c x).length = z) (hz0 : 0 < z) (n1 : H b1 = none) (hF : ∀ (x : β) (D : Heap) (Φ : Bool → Heap → Prop), nw (c x) (fun b2 H2 => ldV H2 (b1, 0) fun x3 => ldT H2 c (b2, 0) fun x5 => callU Tryz.prog C x3 [.agg (c x5).toArray] H2 (fun v H8 => ∃ (r7 : Bool), v = .bool r7 ∧ Φ (!r7) H8)) D → callU Tryz.prog C F [.agg (c x).toArray] D (fun v H13 => ∃ (r12 : Bool), v = .bool r12 ∧ Φ r12 H13))
 (hs:SlIs R c A s l) (hA:A.le H) (he:HeB C A R c l e ok) (k:∀ D r,H.le D→(decide (r ≥ 0)=!l.all ok)→K r D) :
 lp (α:=Int) 0 (H.put b1 (.row [e])) (fun x1 J2 H3=>ift (decide ((x1:Int) < (Sl.len s:Int))) (ixa s x1 fun p5=>ldT H3 c (p5.1,p5.2+(x1:Int).toNat*z) fun x10=>callU Tryz.prog C F [.agg (c x10).toArray] H3 (fun v H13=>∃ (r12:Bool),v=.bool r12∧ift r12 (K x1 H13) (J2 (w .i64 (x1+1)) H13))) (K (-1) H3)):=by
 have l1:=Heap.le_put n1 (g:=.row [e]) (m:=true)
 have c1:(H.put b1 (.row [e])) b1=some (true,.row [e]):=Heap.put_same ..
 generalize H.put b1 (.row [e])=H1 at *
 have hlen:=SlIs.len hs
 have hbd:=SlIs.bd hs
 refine ⟨fun y D=>H1.le D∧∃ i:Nat,y=(i:Int)∧i≤l.length∧(l.take i).all ok=true,fun y _=>l.length - y.toNat,⟨Heap.le.refl _,0,rfl,Nat.zero_le _,rfl⟩,?_⟩
 rintro _ D ⟨hD,i,rfl,hi,hall⟩
 rw [hlen]
 refine ift.of (fun h=>?_) (fun h=>?_)
 ·have hlt : i < l.length := by have := of_decide_eq_true h; omega
  refine SlIs.ld hs (hA.trans (l1.trans hD)) hz hz0 rfl hlt fun x hx=>hF _ _ _ ?_
  intro b2 n2
  have l2:=Heap.le_put n2 (g:=.row (c x)) (m:=true)
  refine ⟨e,by rw [QaL (l2 _ _ (hD _ _ c1))]; rfl,bxT (c:=c) (Heap.put_same ..) (he _ (List.getElem_mem hlt) x _ _ ((hA.trans (l1.trans hD)).trans l2) hx ?_)⟩
  refine ift.of (fun hb=>?_) (fun hb=>?_)
  ·have hf : ok l[i] = false := by simpa using hb
   exact k _ _ (l1.trans (hD.trans l2)) (by rw [allNo hlt hf]; exact decide_eq_true (by omega))
  ·have hf : ok l[i] = true := by simpa using hb
   rw [Qbl (by omega) (by omega)]
   exact ⟨⟨hD.trans l2,i+1,by omega,by omega,by rw [allTake hlt,hall,hf]; rfl⟩,by first | omega | (dsimp only; omega)⟩
 ·have hie : i = l.length := by have := of_decide_eq_false h; omega
  subst hie
  rw [List.take_length] at hall
  exact k _ _ (l1.trans hD) (by rw [hall]; rfl)
theorem Qon {R:α→Qn→Prop} {K:Bool→Heap→Prop} (hs:SlIs R Qn.c A s l) (hA:A.le H) (he:HeB C A R Qn.c l e ok) (k:K (l.all ok) H) (h1c:Value.cells e = #[e]:=by exact rfl):Q4 C s e K H:=by
 apply Q4.gh
 apply Qgy
 unfold QdI
 refine ⟨h1c,fun b1 n1=>?_⟩
 apply QN
 unfold Qz
 apply QX
 unfold QD
 exact alG (K:=fun r H2=>∃ H0,Gh C H2 H0∧K (!decide (r ≥ 0)) H0) Qoa (by omega) n1 (fun x D Φ h=>⟨122,[],[pv (some (b1,0))],rfl,QfI,Qfn C x (b1,0) Φ D h⟩) hs hA he fun D r hD hr=>⟨H,Gh.le hD,by rw [hr,Bool.not_not]; exact k⟩
theorem Qn1 {R:α→Qb→Prop} {K:Int→Heap→Prop} (hs:SlIs R Qb.c A s l) (hA:A.le H) (he:HeD C A R Qb.c l e d) (k:K (mxL d l) H):QF C s e K H:=by
 apply QF.gh
 apply Qek
 unfold QcA
 refine dpG (K:=fun r H2=>∃ H0,Gh C H2 H0∧K r H0) QjR (by omega) ?_ hs hA he fun D hD=>⟨H,Gh.le hD,k⟩
 rfl
theorem QnY {R:α→Qb→Prop} {K:Bool→Heap→Prop} (hs:SlIs R Qb.c A s l) (hA:A.le H) (he:HeB C A R Qb.c l e ok) (k:K (l.all ok) H) (h1c:Value.cells e = #[e]:=by exact rfl):Q0 C s e K H:=by
 apply Q0.gh
 apply Qf2
 unfold QdA
 refine ⟨h1c,fun b1 n1=>?_⟩
 apply Qbq
 unfold Qaf
 apply QbD
 unfold Qau
 exact alG (K:=fun r H2=>∃ H0,Gh C H2 H0∧K (!decide (r ≥ 0)) H0) QjR (by omega) n1 (fun x D Φ h=>⟨124,[],[pv (some (b1,0))],rfl,Qfa,QeZ C x (b1,0) Φ D h⟩) hs hA he fun D r hD hr=>⟨H,Gh.le hD,by rw [hr,Bool.not_not]; exact k⟩
theorem QoE {R:α→Qg→Prop} {K:Int→Heap→Prop} (hs:SlIs R Qg.c A s l) (hA:A.le H) (he:HeD C A R Qg.c l e d) (k:K (mxL d l) H):QI C s e K H:=by
 apply QI.gh
 apply Qez
 unfold QcH
 refine dpG (K:=fun r H2=>∃ H0,Gh C H2 H0∧K r H0) QkY (by omega) ?_ hs hA he fun D hD=>⟨H,Gh.le hD,k⟩
 rfl
theorem Qoo {R:α→Qg→Prop} {K:Bool→Heap→Prop} (hs:SlIs R Qg.c A s l) (hA:A.le H) (he:HeB C A R Qg.c l e ok) (k:K (l.all ok) H) (h1c:Value.cells e = #[e]:=by exact rfl):Q5 C s e K H:=by
 apply Q5.gh
 apply Qgz
 unfold QdJ
 refine ⟨h1c,fun b1 n1=>?_⟩
 apply QbA
 unfold Qap
 apply Qb5
 unfold QaC
 exact alG (K:=fun r H2=>∃ H0,Gh C H2 H0∧K (!decide (r ≥ 0)) H0) QkY (by omega) n1 (fun x D Φ h=>⟨130,[],[pv (some (b1,0))],rfl,QfJ,Qfo C x (b1,0) Φ D h⟩) hs hA he fun D r hD hr=>⟨H,Gh.le hD,by rw [hr,Bool.not_not]; exact k⟩
theorem QqK {R:α→Qi→Prop} {K:Int→Heap→Prop} (hs:SlIs R Qi.c A s l) (hA:A.le H) (he:HeD C A R Qi.c l e d) (k:K (mxL d l) H):QR C s e K H:=by
 apply QR.gh
 apply Qfq
 unfold Qdh
 refine dpG (K:=fun r H2=>∃ H0,Gh C H2 H0∧K r H0) Qnz (by omega) ?_ hs hA he fun D hD=>⟨H,Gh.le hD,k⟩
 rfl
theorem Qop {R:α→Qi→Prop} {K:Bool→Heap→Prop} (hs:SlIs R Qi.c A s l) (hA:A.le H) (he:HeB C A R Qi.c l e ok) (k:K (l.all ok) H) (h1c:Value.cells e = #[e]:=by exact rfl):Q6 C s e K H:=by
 apply Q6.gh
 apply Qhw
 unfold Qd6
 refine ⟨h1c,fun b1 n1=>?_⟩
 apply Qci
 unfold QaN
 apply QcJ
 unfold QaW
 exact alG (K:=fun r H2=>∃ H0,Gh C H2 H0∧K (!decide (r ≥ 0)) H0) Qnz (by omega) n1 (fun x D Φ h=>⟨135,[],[pv (some (b1,0))],rfl,QgI,QgA C x (b1,0) Φ D h⟩) hs hA he fun D r hD hr=>⟨H,Gh.le hD,by rw [hr,Bool.not_not]; exact k⟩
theorem QpI {R:α→Ql→Prop} {K:Int→Heap→Prop} (hs:SlIs R Ql.c A s l) (hA:A.le H) (he:HeD C A R Ql.c l e d) (k:K (mxL d l) H):QL C s e K H:=by
 apply QL.gh
 apply Qe0
 unfold QcY
 refine dpG (K:=fun r H2=>∃ H0,Gh C H2 H0∧K r H0) Qmh (by omega) ?_ hs hA he fun D hD=>⟨H,Gh.le hD,k⟩
 rfl
theorem Qnh {R:α→Ql→Prop} {K:Bool→Heap→Prop} (hs:SlIs R Ql.c A s l) (hA:A.le H) (he:HeB C A R Ql.c l e ok) (k:K (l.all ok) H) (h1c:Value.cells e = #[e]:=by exact rfl):QW C s e K H:=by
 apply QW.gh
 apply QgQ
 unfold QdT
 refine ⟨h1c,fun b1 n1=>?_⟩
 apply QbQ
 unfold Qay
 apply Qcm
 unfold QaR
 exact alG (K:=fun r H2=>∃ H0,Gh C H2 H0∧K (!decide (r ≥ 0)) H0) Qmh (by omega) n1 (fun x D Φ h=>⟨141,[],[pv (some (b1,0))],rfl,Qgf,Qf1 C x (b1,0) Φ D h⟩) hs hA he fun D r hD hr=>⟨H,Gh.le hD,by rw [hr,Bool.not_not]; exact k⟩
theorem Qn0 {R:α→Qk→Prop} {K:Int→Heap→Prop} (hs:SlIs R Qk.c A s l) (hA:A.le H) (he:HeD C A R Qk.c l e d) (k:K (mxL d l) H):Qu C s e K H:=by
 apply Qu.gh
 apply Qej
 unfold Qcz
 refine dpG (K:=fun r H2=>∃ H0,Gh C H2 H0∧K r H0) QjQ (by omega) ?_ hs hA he fun D hD=>⟨H,Gh.le hD,k⟩
 rfl
theorem QnX {R:α→Qk→Prop} {K:Bool→Heap→Prop} (hs:SlIs R Qk.c A s l) (hA:A.le H) (he:HeB C A R Qk.c l e ok) (k:K (l.all ok) H) (h1c:Value.cells e = #[e]:=by exact rfl):QC C s e K H:=by
 apply QC.gh
 apply Qf0
 unfold Qdz
 refine ⟨h1c,fun b1 n1=>?_⟩
 apply Qbp
 unfold Qae
 apply QbC
 unfold Qat
 exact alG (K:=fun r H2=>∃ H0,Gh C H2 H0∧K (!decide (r ≥ 0)) H0) QjQ (by omega) n1 (fun x D Φ h=>⟨143,[],[pv (some (b1,0))],rfl,Qe9,QeY C x (b1,0) Φ D h⟩) hs hA he fun D r hD hr=>⟨H,Gh.le hD,by rw [hr,Bool.not_not]; exact k⟩
theorem QmL {R:α→Qf→Prop} {K:Int→Heap→Prop} (hs:SlIs R Qf.c A s l) (hA:A.le H) (he:HeD C A R Qf.c l e d) (k:K (mxL d l) H):Qt C s e K H:=by
 apply Qt.gh
 apply Qec
 unfold Qcg
 refine dpG (K:=fun r H2=>∃ H0,Gh C H2 H0∧K r H0) QiW (by omega) ?_ hs hA he fun D hD=>⟨H,Gh.le hD,k⟩
 rfl
theorem QmF {R:α→Qf→Prop} {K:Bool→Heap→Prop} (hs:SlIs R Qf.c A s l) (hA:A.le H) (he:HeB C A R Qf.c l e ok) (k:K (l.all ok) H) (h1c:Value.cells e = #[e]:=by exact rfl):QP C s e K H:=by
 apply QP.gh
 apply Qfm
 unfold Qdf
 refine ⟨h1c,fun b1 n1=>?_⟩
 apply Q9
 unfold QH
 apply Qag
 unfold QM
 exact alG (K:=fun r H2=>∃ H0,Gh C H2 H0∧K (!decide (r ≥ 0)) H0) QiW (by omega) n1 (fun x D Φ h=>⟨193,[],[pv (some (b1,0))],rfl,QeF,Qey C x (b1,0) Φ D h⟩) hs hA he fun D r hD hr=>⟨H,Gh.le hD,by rw [hr,Bool.not_not]; exact k⟩
theorem QnZ {R:α→Qc→Prop} {K:Int→Heap→Prop} (hs:SlIs R Qc.c A s l) (hA:A.le H) (he:HeD C A R Qc.c l e d) (k:K (mxL d l) H):QE C s e K H:=by
 apply QE.gh
 apply Qei
 unfold Qcy
 refine dpG (K:=fun r H2=>∃ H0,Gh C H2 H0∧K r H0) QjP (by omega) ?_ hs hA he fun D hD=>⟨H,Gh.le hD,k⟩
 rfl
theorem QnW {R:α→Qc→Prop} {K:Bool→Heap→Prop} (hs:SlIs R Qc.c A s l) (hA:A.le H) (he:HeB C A R Qc.c l e ok) (k:K (l.all ok) H) (h1c:Value.cells e = #[e]:=by exact rfl):QZ C s e K H:=by
 apply QZ.gh
 apply QfZ
 unfold Qdy
 refine ⟨h1c,fun b1 n1=>?_⟩
 apply Qac
 unfold QK
 apply Qaq
 unfold QT
 exact alG (K:=fun r H2=>∃ H0,Gh C H2 H0∧K (!decide (r ≥ 0)) H0) QjP (by omega) n1 (fun x D Φ h=>⟨191,[],[pv (some (b1,0))],rfl,Qe8,QeX C x (b1,0) Φ D h⟩) hs hA he fun D r hD hr=>⟨H,Gh.le hD,by rw [hr,Bool.not_not]; exact k⟩
theorem QqL {R:α→Qd→Prop} {K:Int→Heap→Prop} (hs:SlIs R Qd.c A s l) (hA:A.le H) (he:HeD C A R Qd.c l e d) (k:K (mxL d l) H):QS C s e K H:=by
 apply QS.gh
 apply Qfr
 unfold Qdi
 refine dpG (K:=fun r H2=>∃ H0,Gh C H2 H0∧K r H0) QnA (by omega) ?_ hs hA he fun D hD=>⟨H,Gh.le hD,k⟩
 rfl
theorem Qqy {R:α→Qd→Prop} {K:Bool→Heap→Prop} (hs:SlIs R Qd.c A s l) (hA:A.le H) (he:HeB C A R Qd.c l e ok) (k:K (l.all ok) H) (h1c:Value.cells e = #[e]:=by exact rfl):QQ C s e K H:=by
 apply QQ.gh
 apply Qhx
 unfold Qd7
 refine ⟨h1c,fun b1 n1=>?_⟩
 apply QaG
 unfold Q1
 apply QaU
 unfold Q8
 exact alG (K:=fun r H2=>∃ H0,Gh C H2 H0∧K (!decide (r ≥ 0)) H0) QnA (by omega) n1 (fun x D Φ h=>⟨223,[],[pv (some (b1,0))],rfl,QgJ,QgB C x (b1,0) Φ D h⟩) hs hA he fun D r hD hr=>⟨H,Gh.le hD,by rw [hr,Bool.not_not]; exact k⟩
theorem QoD {R:α→Qh→Prop} {K:Int→Heap→Prop} (hs:SlIs R Qh.c A s l) (hA:A.le H) (he:HeD C A R Qh.c l e d) (k:K (mxL d l) H):Qw C s e K H:=by
 apply Qw.gh
 apply Qfp
 unfold Qdg
 refine dpG (K:=fun r H2=>∃ H0,Gh C H2 H0∧K r H0) Qlz (by omega) ?_ hs hA he fun D hD=>⟨H,Gh.le hD,k⟩
 rfl
theorem QmE {R:α→Qh→Prop} {K:Bool→Heap→Prop} (hs:SlIs R Qh.c A s l) (hA:A.le H) (he:HeB C A R Qh.c l e ok) (k:K (l.all ok) H) (h1c:Value.cells e = #[e]:=by exact rfl):QB C s e K H:=by
 apply QB.gh
 apply Qhv
 unfold Qd5
 refine ⟨h1c,fun b1 n1=>?_⟩
 apply Qch
 unfold QaM
 apply QcI
 unfold QaV
 exact alG (K:=fun r H2=>∃ H0,Gh C H2 H0∧K (!decide (r ≥ 0)) H0) Qlz (by omega) n1 (fun x D Φ h=>⟨197,[],[pv (some (b1,0))],rfl,QgF,Qgx C x (b1,0) Φ D h⟩) hs hA he fun D r hD hr=>⟨H,Gh.le hD,by rw [hr,Bool.not_not]; exact k⟩
end
section
variable {C:Ctx} {H:Heap}
theorem Ql0 {A:Heap} {s:Sl} {l:List Str} {e:Value} {ok:Str→Bool} {K:Bool→Heap→Prop} (hs:StL A s l) (hA:A.le H)
 (he:∀ v ∈ l,∀ (D:Heap) (Φ:Bool→Heap→Prop),A.le D→v.length≤140737488355328→Φ (ok v) D→callU Tryz.prog C e [sv v] D (fun v H31=>∃ r30:Bool,v=.bool r30∧Φ r30 H31))
 (k:K (l.all ok) H) (h1c:Value.cells e = #[e]:=by exact rfl):Qan C s e K H:=by
 apply Qan.gh
 apply Qh9
 unfold QeP
 refine ⟨h1c,?_⟩
 intro b1 n1
 have l1:=Heap.le_put n1 (g:=.row [e]) (m:=true)
 have c1:(H.put b1 (.row [e])) b1=some (true,.row [e]):=Heap.put_same ..
 generalize H.put b1 (.row [e])=H1 at *
 apply QcQ
 unfold Qa2
 apply Qdp
 unfold Qbi
 have hlen:=SlIs.len hs
 have hbd:=SlIs.bd hs
 refine ⟨fun y D=>H1.le D∧∃ i:Nat,y=(i:Int)∧i≤l.length∧(l.take i).all ok=true,fun y _=>l.length - y.toNat,⟨Heap.le.refl _,0,rfl,Nat.zero_le _,rfl⟩,?_⟩
 rintro _ D ⟨hD,i,rfl,hi,hall⟩
 rw [hlen]
 refine ift.of (fun h=>?_) (fun h=>?_)
 ·have hlt : i < l.length := by have := of_decide_eq_true h; omega
  refine SlIs.at_ hs (hA.trans (l1.trans hD)) (z:=1) (fun _=>rfl) (by omega) rfl hlt fun p y hy hr=>⟨y,hr 0 _ rfl,?_⟩
  rw [hy.1]
  have key:∀ Φ:Bool→Heap→Prop,(∀ D2,D.le D2→Φ (!ok l[i]) D2)→callU Tryz.prog C (.func (.func 190) (List.toArray []) (List.toArray [pv (some (b1,0))])) [sv l[i]] D (fun v H31=>∃ r30:Bool,v=.bool r30∧Φ r30 H31):=fun Φ hΦ=>by
   refine ⟨190,[],[pv (some (b1,0))],rfl,QhA,?_⟩
   show Qel C l[i] (b1,0) Φ D
   apply Qhy
   unfold Qd8
   refine ⟨e,by rw [QaL (hD _ _ c1)]; rfl,he _ (List.getElem_mem hlt) _ _ (hA.trans (l1.trans hD)) hy.2 ?_⟩
   exact hΦ _ (Heap.le.refl _)
  refine key _ fun D2 hD2=>?_
  refine ift.of (fun hb=>?_) (fun hb=>?_)
  ·have hf : ok l[i] = false := by simpa using hb
   rw [allNo hlt hf] at k
   have e0:decide ((i:Int) ≥ 0)=true:=decide_eq_true (by omega)
   dsimp only
   rw [e0]
   exact ⟨H,Gh.le (l1.trans (hD.trans hD2)),k⟩
  ·have hf : ok l[i] = true := by simpa using hb
   rw [Qbl (by omega) (by omega)]
   exact ⟨⟨hD.trans hD2,i+1,by omega,by omega,by rw [allTake hlt,hall,hf]; rfl⟩,by first | omega | (dsimp only; omega)⟩
 ·have hie : i = l.length := by have := of_decide_eq_false h; omega
  subst hie
  rw [List.take_length] at hall
  rw [hall] at k
  exact ⟨H,Gh.le (l1.trans hD),k⟩
end
end
section
open Go Go.Proofs
theorem jp {P:Prop} {R:Bool→Heap→Prop} {body:(Bool→Heap→Prop)→Prop} (H0:Heap) (h1:body (fun b E=>E=H0∧(b=true↔P))) (h2:∀ b,(b=true↔P)→R b H0):jn (α:=Bool) R body:=⟨fun b E=>E=H0∧(b=true↔P),h1,by rintro b _ ⟨rfl,h⟩; exact h2 b h⟩
theorem jw {R:Bool→Heap→Prop} {body:(Bool→Heap→Prop)→Prop} (v:Bool) (H0:Heap) (h1:body (fun b E=>H0.le E∧b=v)) (h2:∀ E,H0.le E→R v E):jn (α:=Bool) R body:=⟨fun b E=>H0.le E∧b=v,h1,by rintro _ _ ⟨h,rfl⟩; exact h2 _ h⟩
theorem ja {R:Bool→Heap→Prop} {x:Bool} (y:Bool) (H0:Heap) {A:(Bool→Heap→Prop)→Prop} (h:x=true→A (fun b E=>E=H0∧b=y)) (k:R (x && y) H0):jn (α:=Bool) R (fun J=>ift x (A J) (J false H0)):=
 ⟨fun b E=>E=H0∧b=(x && y),ift.of (fun hx=>by cases hx; exact h rfl) (fun hx=>⟨rfl,by rw [hx]; rfl⟩),by rintro _ _ ⟨rfl,rfl⟩; exact k⟩
theorem jo' {R:Bool→Heap→Prop} {x:Bool} (y:Bool) (H0:Heap) {A:(Bool→Heap→Prop)→Prop} (h:x=false→A (fun b E=>E=H0∧b=y)) (k:R (x || y) H0):jn (α:=Bool) R (fun J=>ift x (J true H0) (A J)):=
 ⟨fun b E=>E=H0∧b=(x || y),ift.of (fun hx=>⟨rfl,by rw [hx]; rfl⟩) (fun hx=>by cases hx; exact h rfl),by rintro _ _ ⟨rfl,rfl⟩; exact k⟩
theorem ix0 {s:Str} {K:UInt8→Prop} (h:s≠[]) (k:K (s.headD 0)):ixs s 0 K:=by
 cases s with
 | nil=>exact absurd rfl h
 | cons c t=>exact ⟨c,by omega,rfl,k⟩
theorem Qih (s:Str):(s == ([]:Str))=s.isEmpty:=by cases s <;> rfl
theorem QrY {x:Qf} (i:Nat) (u:Value) (hi:(Qd.c x.Type_)[i]? = some u):(Qf.c x)[1+i]? = some u:=by
 match i,hi with
 | 0,hi=>exact hi
 | 1,hi=>exact hi
 | i+2,hi=>simp [Qd.c] at hi
theorem Qr1 {x:Qh} (i:Nat) (u:Value) (hi:(Qm.c x.Value_)[i]? = some u):(Qh.c x)[4+i]? = some u:=by
 match i,hi with
 | 0,hi=>exact hi
 | 1,hi=>exact hi
 | 2,hi=>exact hi
 | 3,hi=>exact hi
 | i+4,hi=>simp [Qm.c] at hi
theorem QrX (v:TyV):tyD v=mxL tyD v.a+1:=by
 obtain ⟨n,a⟩:=v
 have:∀ l,tysD l=mxL tyD l:=fun l=>by
  induction l with
  | nil=>rfl
  | cons v l ih=>simp only [tysD,mxL,ih]
 simp only [tyD,TyV.a,this]
theorem QoK (l:List ExV):exsD l=mxL exD l:=by
 induction l with
 | nil=>rfl
 | cons v l ih=>simp only [exsD,mxL,ih]
theorem QrG (v:ExV):exD v=mxL exD v.a+1:=by
 obtain ⟨k,n,u,a⟩:=v
 simp only [exD,ExV.a,QoK]
section
variable {C:Ctx} {H A:Heap}
theorem box1 {cx:List Value} {K:Nat→Heap→Prop} (k:∀ b1 H2,H.le H2→H2 b1=some (true,.row cx)→K b1 H2):nw cx K H:=fun b n=>k b _ (Heap.le_put n) (Heap.put_same ..)
theorem fB0 {b:Nat} {m:Bool} {t:Bool} {K:Bool→Prop} (h:H b=some (m,.row [.bool t])) (k:K t):ldB H (b,0) K:=⟨t,by rw [QaL h]; rfl,k⟩
theorem Qmy:∀ (v:TyV) {x:Qd} {H:Heap} {K:Int→Heap→Prop},TyIs A v x→A.le H→tyD v≤4611686018427387904→K (tyD v:Nat) H→QaT C x K H:=by
 refine TyV.rec_ fun v ih x H K hx hA hb k=>?_
 have hx':=QeI.1 hx
 apply QaT.gh
 apply QiK
 unfold QfU
 rw [QrX] at hb k
 refine box1 fun b1 H2 hle h1=>fL h1 rfl ?_
 refine QqL hx'.2 (hA.trans hle) (d:=tyD) (fun w hw x D Φ hD hR hΦ=>cu QfM (ih w hw hR hD (by have:=QhD (f:=tyD) hw; omega) hΦ)) ?_
 rw [Qbl (by omega) (by omega)]
 have e:(1+(mxL tyD v.a:Nat):Int)=((mxL tyD v.a+1:Nat):Int):=by omega
 rw [e]; exact ⟨H,Gh.le hle,k⟩
theorem QpH:∀ (v:ExV) {x:Qh} {H:Heap} {K:Int→Heap→Prop},ExIs A v x→A.le H→exD v≤4611686018427387904→K (exD v:Nat) H→Qc3 C x K H:=by
 refine ExV.rec_ fun v ih x H K hx hA hb k=>?_
 have hx':=Qle.1 hx
 apply Qc3.gh
 apply Qlh
 unfold QiA
 rw [QrG] at hb k
 refine box1 fun b1 H2 hle h1=>fL h1 rfl ?_
 refine QoD hx'.2.2.2.2 (hA.trans hle) (d:=exD) (fun w hw x D Φ hD hR hΦ=>cu Qir (ih w hw hR hD (by have:=QhD (f:=exD) hw; omega) hΦ)) ?_
 rw [Qbl (by omega) (by omega)]
 have e:(1+(mxL exD v.a:Nat):Int)=((mxL exD v.a+1:Nat):Int):=by omega
 rw [e]; exact ⟨H,Gh.le hle,k⟩
theorem QjJ {l:List ExV} {s:Sl} {K:Int→Heap→Prop} (hs:ExL A s l) (hA:A.le H) (hb:exsD l≤4611686018427387904) (k:K (exsD l:Nat) H):Qw C s (.func (.func 115) (List.toArray []) (List.toArray []):Value) K H:=by
 rw [QoK] at k hb
 exact QoD hs hA (d:=exD) (fun w hw x D Φ hD hR hΦ=>cu Qir (QpH w hR hD (by have:=QhD (f:=exD) hw; omega) hΦ)) k
theorem Qlu {v:FdV} {x:Qf} {K:Int→Heap→Prop} (hx:FdIs A v x) (hA:A.le H) (hb:tyD v.t≤4611686018427387904) (k:K (tyD v.t:Nat) H):Qa3 C x K H:=by
 apply Qa3.gh
 apply Qia
 unfold QeQ
 exact box1 fun b1 H2 hle h1=>fT h1 QrY (Qmy v.t hx.2 (hA.trans hle) hb ⟨H,Gh.le hle,k⟩)
theorem QhC {l:List FdV} {s:Sl} {K:Int→Heap→Prop} (hs:FdL A s l) (hA:A.le H) (hb:fdsD l≤4611686018427387904) (k:K (fdsD l:Nat) H):Qt C s (.func (.func 109) (List.toArray []) (List.toArray []):Value) K H:=
 QmL hs hA (d:=fun f:FdV=>tyD f.t) (fun w hw x D Φ hD hR hΦ=>cu Qis (Qlu hR hD (by have:=QhD (f:=fun f:FdV=>tyD f.t) hw; unfold fdsD at hb; omega) hΦ)) k
theorem QjT {v:LiV} {x:Qk} {K:Int→Heap→Prop} (hx:LiIs A v x) (hA:A.le H) (hb:liD v≤4611686018427387904) (k:K (liD v:Nat) H):QaD C x K H:=by
 apply QaD.gh
 apply Qhz
 unfold Qd9
 exact box1 fun b1 H2 hle h1=>fL h1 rfl (QjJ hx.2.2 (hA.trans hle) hb ⟨H,Gh.le hle,k⟩)
theorem QjS {l:List LiV} {s:Sl} {K:Int→Heap→Prop} (hs:LiL A s l) (hA:A.le H) (hb:lisD l≤4611686018427387904) (k:K (lisD l:Nat) H):Qu C s (.func (.func 117) (List.toArray []) (List.toArray []):Value) K H:=
 Qn0 hs hA (d:=liD) (fun w hw x D Φ hD hR hΦ=>cu QhB (QjT hR hD (by have:=QhD (f:=liD) hw; unfold lisD at hb; omega) hΦ)) k
theorem QoA {v:CnV} {x:Qc} {K:Int→Heap→Prop} (hx:CnIs A v x) (hA:A.le H) (hb:fdsD v.f≤4611686018427387904) (k:K (fdsD v.f:Nat) H):Qbw C x K H:=by
 apply Qbw.gh
 apply Qja
 unfold Qgp
 exact box1 fun b1 H2 hle h1=>fL h1 rfl (QhC hx.2 (hA.trans hle) hb ⟨H,Gh.le hle,k⟩)
theorem QpD {v:TdV} {x:Qb} {K:Int→Heap→Prop} (hx:TdIs A v x) (hA:A.le H) (hb:tdD v≤4611686018427387904) (k:K (tdD v:Nat) H):QcB C x K H:=by
 apply QcB.gh
 apply Qkq
 unfold QhM
 exact box1 fun b1 H2 hle h1=>fL h1 rfl (QnZ hx.2.2.2 (hA.trans hle) (d:=fun c:CnV=>fdsD c.f) (fun w hw x D Φ hD hR hΦ=>cu Qjf (QoA hR hD (by have:=QhD (f:=fun c:CnV=>fdsD c.f) hw; unfold tdD at hb; omega) hΦ)) ⟨H,Gh.le hle,k⟩)
theorem QpE {v:RdV} {x:Qg} {K:Int→Heap→Prop} (hx:RdIs A v x) (hA:A.le H) (hb:fdsD v.f≤4611686018427387904) (k:K (fdsD v.f:Nat) H):QcC C x K H:=by
 apply QcC.gh
 apply Qkr
 unfold QhN
 exact box1 fun b1 H2 hle h1=>fL h1 rfl (QhC hx.2.2.2 (hA.trans hle) hb ⟨H,Gh.le hle,k⟩)
theorem ifmax (a b:Nat):(if ((b:Nat):Int) > ((a:Nat):Int) then ((b:Nat):Int) else ((a:Nat):Int))=((max a b:Nat):Int):=by split <;> omega
theorem QpF {v:RuV} {x:Qi} {K:Int→Heap→Prop} (hx:RuIs A v x) (hA:A.le H) (hb:ruD v≤4611686018427387904) (k:K (ruD v:Nat) H):QcD C x K H:=by
 apply QcD.gh
 apply Qks
 unfold QhO
 unfold ruD at hb
 refine box1 fun b1 H2 hle h1=>⟨H2,Heap.le.refl _,fL h1 rfl (fL h1 rfl ?_)⟩
 refine QjJ hx.2.1 (hA.trans hle) (by omega) ⟨Heap.le.refl _,QjS hx.2.2.2 (hA.trans hle) (by omega) ⟨Heap.le.refl _,?_⟩⟩
 dsimp only
 rw [ifmax]; exact ⟨H,Gh.le hle,k⟩
theorem QpG {v:NeV} {x:Ql} {K:Int→Heap→Prop} (hx:NeIs A v x) (hA:A.le H) (hb:lisD v.b≤4611686018427387904) (k:K (lisD v.b:Nat) H):QcE C x K H:=by
 apply QcE.gh
 apply Qkt
 unfold QhP
 exact box1 fun b1 H2 hle h1=>fL h1 rfl (QjS hx.2 (hA.trans hle) hb ⟨H,Gh.le hle,k⟩)
theorem QqJ {v:MoV} {x:Qa} {K:Int→Heap→Prop} (hx:MoIs A v x) (hA:A.le H) (hb:moD v≤4611686018427387904) (k:K (moD v:Nat) H):Qc1 C x K H:=by
 apply Qc1.gh
 apply QlS
 unfold QiZ
 unfold moD at hb k
 refine box1 fun b1 H2 hle h1=>⟨H2,Heap.le.refl _,fL h1 rfl (fL h1 rfl (fL h1 rfl (fL h1 rfl ?_)))⟩
 have hA2:=hA.trans hle
 refine Qn1 hx.2.2.1 hA2 (d:=tdD) (fun w hw x D Φ hD hR hΦ=>cu QkE (QpD hR hD (by have:=QhD (f:=tdD) hw; omega) hΦ)) ⟨Heap.le.refl _,?_⟩
 refine QoE hx.2.2.2.1 hA2 (d:=fun r:RdV=>fdsD r.f) (fun w hw x D Φ hD hR hΦ=>cu QkF (QpE hR hD (by have:=QhD (f:=fun r:RdV=>fdsD r.f) hw; omega) hΦ)) ⟨Heap.le.refl _,?_⟩
 refine QqK hx.2.2.2.2.1 hA2 (d:=ruD) (fun w hw x D Φ hD hR hΦ=>cu QkG (QpF hR hD (by have:=QhD (f:=ruD) hw; omega) hΦ)) ⟨Heap.le.refl _,?_⟩
 refine QpI hx.2.2.2.2.2 hA2 (d:=fun n:NeV=>lisD n.b) (fun w hw x D Φ hD hR hΦ=>cu QkH (QpG hR hD (by have:=QhD (f:=fun n:NeV=>lisD n.b) hw; omega) hΦ)) ⟨Heap.le.refl _,?_⟩
 have e:max4 ((mxL tdD v.ty:Nat):Int) ((mxL (fun r:RdV=>fdsD r.f) v.re:Nat):Int) ((mxL ruD v.ru:Nat):Int) ((mxL (fun n:NeV=>lisD n.b) v.ne:Nat):Int)=((max (max (mxL tdD v.ty) (mxL (fun r:RdV=>fdsD r.f) v.re)) (max (mxL ruD v.ru) (mxL (fun n:NeV=>lisD n.b) v.ne)):Nat):Int):=by unfold max4; omega
 rw [e]; exact ⟨H,Gh.le hle,k⟩
theorem Qpi {s:Str} {K:Bool→Heap→Prop} (hs:s.length≤140737488355328) (k:K (s.all nameC && decide (s.length≤32)) H):Qf9 C s K H:=by
 apply QlX
 unfold Qi4
 refine ⟨fun x D=>D=H∧∃ i:Nat,x=(i:Int)∧i≤s.length∧(s.take i).all nameC=true,fun x _=>s.length - x.toNat,⟨rfl,0,rfl,Nat.zero_le _,rfl⟩,?_⟩
 rintro _ D ⟨rfl,i,rfl,hi,ha⟩
 refine ift.of (fun h=>?_) (fun h=>?_)
 ·have hlt : i < s.length := by have := of_decide_eq_true h; omega
  refine ⟨s[i],by omega,getE hlt,?_⟩
  dsimp only
  have hm:=List.getElem_mem hlt
  have hat:=Qni (p:=nameC) hlt
  generalize s[i]=c at *
  have e:((((decide ((c.toNat:Int) ≥ 97)) && (decide ((c.toNat:Int)≤122))) || ((decide ((c.toNat:Int) ≥ 65)) && (decide ((c.toNat:Int)≤90)))) || ((decide ((c.toNat:Int) ≥ 48)) && (decide ((c.toNat:Int)≤57)))  || ((c.toNat:Int) == 95))=nameC c:=by
   unfold nameC lowC
   have h1:decide ((c.toNat:Int) ≥ 65)=decide (65≤c.toNat):=by rw [decide_eq_decide]; omega
   have h2:decide ((c.toNat:Int)≤90)=decide (c.toNat≤90):=by rw [decide_eq_decide]; omega
   have h3:decide ((c.toNat:Int) ≥ 48)=decide (48≤c.toNat):=by rw [decide_eq_decide]; omega
   have h4:decide ((c.toNat:Int)≤57)=decide (c.toNat≤57):=by rw [decide_eq_decide]; omega
   have h5:((c.toNat:Int) == 95)=decide (c.toNat=95):=by
    rw [Bool.eq_iff_iff]; simp only [beq_iff_eq,decide_eq_true_eq]; omega
   have h6:decide ((c.toNat:Int) ≥ 97)=decide (97≤c.toNat):=by rw [decide_eq_decide]; omega
   have h7:decide ((c.toNat:Int)≤122)=decide (c.toNat≤122):=by rw [decide_eq_decide]; omega
   rw [h1,h2,h3,h4,h5,h6,h7]
  rw [e]
  refine ift.of (fun h=>?_) (fun h=>?_)
  ·rw [Qqi hm (by simpa using h)] at k; exact k
  ·rw [Qbl (by omega) (by omega)]
   refine ⟨⟨rfl,i+1,by omega,by omega,?_⟩,by first | omega | (dsimp only; omega)⟩
   rw [hat,ha]; simpa using h
 ·have hie : i = s.length := by have := of_decide_eq_false h; omega
  rw [hie,List.take_length] at ha
  rw [ha] at k
  have e:decide ((s.length:Int)≤32)=decide (s.length≤32):=by rw [decide_eq_decide]; omega
  rw [e]; exact k
theorem Qrw {s:Str} {p:Bool} (h:((!(s == ([]:Str))) && p)=true):s≠[]:=fun e=>by rw [e] at h; simp at h
theorem QdY {s t:Str} {K:Bool→Heap→Prop} (hT:MaxC C) (ht:Nm t s) (k:K (namS s) H):QaE C t K H:=by
 obtain ⟨rfl,hs⟩:=ht
 apply QlW
 unfold Qi3
 refine ja (decide (97≤(t.headD 0).toNat)) H (fun h=>ix0 (fun e=>by rw [e] at h; simp at h) ⟨rfl,by rw [decide_eq_decide]; omega⟩) ?_
 refine ja (decide ((t.headD 0).toNat≤122)) H (fun h=>ix0 (Qrw h) ⟨rfl,by rw [decide_eq_decide]; omega⟩) ?_
 refine ja (t.all nameC && decide (t.length≤32)) H (fun h=>Qpi hs ⟨rfl,rfl⟩) ?_
 refine ja (!resW.contains t) H (fun h=>?_) ?_
 ·simp only [Bool.and_eq_true,decide_eq_true_eq] at h
  have h32:=h.2.2
  refine ⟨by simp [catOk]; omega,by simp [catOk]; omega,?_⟩
  rw [← QqG]
  have hbl:(blk resW).length < 4294967281:=by decide
  refine QkL hT hbl ?_
  rw [QrR h.2.1]; exact ⟨rfl,rfl⟩
 have e:(((((!(t == ([]:Str))) && decide (97≤(t.headD 0).toNat)) && decide ((t.headD 0).toNat≤122)) && (t.all nameC && decide (t.length≤32))) && !resW.contains t)=namS t:=by
  unfold namS nameS lowC
  rw [Qih,Bool.eq_iff_iff]
  simp only [Bool.and_eq_true]
  constructor
  ·rintro ⟨⟨⟨⟨a,b⟩,c⟩,d,e⟩,f⟩; exact ⟨⟨⟨⟨a,e⟩,b,c⟩,d⟩,f⟩
  ·rintro ⟨⟨⟨⟨a,e⟩,b,c⟩,d⟩,f⟩; exact ⟨⟨⟨⟨a,b⟩,c⟩,d,e⟩,f⟩
 rw [e]; exact k
theorem QlB {s t:Str} {K:Bool→Heap→Prop} (hT:MaxC C) (ht:Nm t s) (k:K (longS s) H):QdK C t K H:=by
 obtain ⟨rfl,hs⟩:=ht
 apply QlV
 unfold Qi2
 refine QjD hs ?_
 unfold longS at k
 cases hc:cutD t with
 | none=>
  rw [hc] at k
  refine QdY hT ⟨rfl,hs⟩ ?_
  refine ja true H (fun h=>jo' true H (fun h=>(nomatch h)) ⟨rfl,rfl⟩) ?_
  rw [Bool.and_true]; exact k
 | some p=>
  obtain ⟨a,b⟩:=p
  rw [hc] at k
  have hl:=Qlp hc
  refine QdY hT ⟨rfl,by omega⟩ ?_
  exact ja (namS b) H (fun h=>jo' (namS b) H (fun h=>QdY hT ⟨rfl,by omega⟩ ⟨rfl,rfl⟩) ⟨rfl,rfl⟩) k
theorem Qkh {s t:Str} {K:Bool→Heap→Prop} (ht:Nm t s) (k:K (varS s) H):Qdr C t K H:=by
 obtain ⟨rfl,hs⟩:=ht
 apply Qjc
 unfold Qgr
 refine ja (decide (65≤(t.headD 0).toNat)) H (fun h=>ix0 (fun e=>by rw [e] at h; simp at h) ⟨rfl,by rw [decide_eq_decide]; omega⟩) ?_
 refine ja (decide ((t.headD 0).toNat≤90)) H (fun h=>ix0 (Qrw h) ⟨rfl,by rw [decide_eq_decide]; omega⟩) ?_
 refine ja (t.all nameC && decide (t.length≤32)) H (fun h=>Qpi hs ⟨rfl,rfl⟩) ?_
 have e:((((!(t == ([]:Str))) && decide (65≤(t.headD 0).toNat)) && decide ((t.headD 0).toNat≤90)) && (t.all nameC && decide (t.length≤32)))=varS t:=by
  unfold varS upC
  rw [Qih,Bool.eq_iff_iff]
  simp only [Bool.and_eq_true]
  constructor
  ·rintro ⟨⟨⟨a,b⟩,c⟩,d,e⟩; exact ⟨⟨⟨a,e⟩,b,c⟩,d⟩
  ·rintro ⟨⟨⟨a,e⟩,b,c⟩,d⟩; exact ⟨⟨⟨a,b⟩,c⟩,d,e⟩
 rw [e]; exact k
theorem QnF {s t:Str} {K:Bool→Heap→Prop} (hT:MaxC C) (ht:Nm t s) (k:K (parS s) H):QgV C t K H:=by
 obtain ⟨rfl,hs⟩:=ht
 apply Qli
 unfold QiB
 apply Qd1
 unfold QcP
 refine Qg1 ?_
 refine ja (namS (t.drop 1)) H (fun h=>?_) ?_
 ·have hl : 1 ≤ t.length := by have := (List.isPrefixOf_iff_prefix.1 h).length_le; simpa using this
  refine ⟨by omega,by omega,by omega,t.drop 1,by simp,QdY hT ⟨rfl,by simp; omega⟩ ⟨rfl,rfl⟩⟩
 have e:(([39]:Str).isPrefixOf t && namS (t.drop 1))=parS t:=by
  cases t with
  | nil=>rfl
  | cons c t=>
   simp only [List.isPrefixOf,parS,List.drop_succ_cons,List.drop_zero,Bool.and_true]
   rw [show ((39:UInt8) == c)=decide (c=39) by rw [Bool.eq_iff_iff,beq_iff_eq,decide_eq_true_eq]; exact eq_comm]
 rw [e]; exact k
end
end
section
open Go Go.Proofs
/-- the table: how many arguments -/
def arL (k:Str):Option Int:=if opsW.contains k then some 2 else if k=intS then some 1 else if k=bigS then some 1 else if k=lenS then some 1 else if k=negS then some 1 else if k=notS then some 1 else none
theorem Qrs (k:Str):arL k=if arS k=0 then none else some (arS k:Nat):=by
 unfold arL arS
 by_cases h:opsW.contains k=true
 ·rw [if_pos h,if_pos h]; rfl
 rw [if_neg h,if_neg h]
 unfold funB
 by_cases h1:k=intS
 ·rw [if_pos h1]; subst h1; rfl
 rw [if_neg h1]
 by_cases h2:k=bigS
 ·rw [if_pos h2]; subst h2; rfl
 rw [if_neg h2]
 by_cases h3:k=lenS
 ·rw [if_pos h3]; subst h3; rfl
 rw [if_neg h3]
 by_cases h4:k=negS
 ·rw [if_pos h4]; subst h4; rfl
 rw [if_neg h4]
 by_cases h5:k=notS
 ·rw [if_pos h5]; subst h5; rfl
 rw [if_neg h5]
 have:¬ (k=notS∨decide (k=negS∨k=lenS∨k=bigS∨k=intS)=true):=by
  rintro (h | h)
  ·exact h5 h
  ·rcases of_decide_eq_true h with h | h | h | h
   ·exact h4 h
   ·exact h3 h
   ·exact h2 h
   ·exact h1 h
 rw [if_neg this]; rfl
theorem Qmz:∀ l,tysOk l=l.all tyOk
 | []=>rfl
 | v::l=>by simp only [tysOk,List.all_cons,Qmz l]
theorem Qii (p:Bool):∀ l,exsOk p l=l.all (exOk p)
 | []=>rfl
 | v::l=>by simp only [exsOk,List.all_cons,Qii p l]
theorem Qrl (v:TyV):tyOk v=(tyN v.n v.a.length && v.a.all tyOk):=by obtain ⟨n,a⟩:=v; simp only [tyOk,Qmz,TyV.n,TyV.a]
theorem QqO (p:Bool) (v:ExV):exOk p v=if v.k=1 then litV v.v && decide (v.a.length=0) && v.n.isEmpty else exN p v.k v.n v.a.length && noV v.v && v.a.all (exOk p):=by obtain ⟨k,n,u,a⟩:=v; simp only [exOk,Qii,ExV.n,ExV.a,ExV.k,ExV.v]; rfl
theorem lenI {n m:Nat}:(((n:Nat):Int) == (m:Int))=decide (n=m):=by rw [Bool.eq_iff_iff,beq_iff_eq,decide_eq_true_eq]; omega
theorem lenN {n m:Nat}:(((n:Nat):Int) != (m:Int))=decide (n≠m):=by rw [Bool.eq_iff_iff,bne_iff_ne,decide_eq_true_eq]; omega
theorem lenL {n m:Nat}:decide (((n:Nat):Int)≤(m:Int))=decide (n≤m):=by rw [decide_eq_decide]; omega
section
variable {C:Ctx} {H A:Heap}
theorem Qld {H D : Heap} {b : Nat} {l : List (Str × Int)} {f : Str → Option Int} {k : Str} {x : Int} {K : Heap → Prop} (nb : H b = none) (hle : H.le D) (hm : MapS sv (fun x : Int => (.int .i64 x : Value)) D b l) (hf : ∀ k2, lkL k2 l = f k2)
 (kk:∀ D2 l2,H.le D2→MapS sv (fun x:Int=>(.int .i64 x:Value)) D2 b l2→(∀ k2,lkL k2 l2=if k2=k then some x else f k2)→(∀ c,c≠b→D2 c=D c)→K D2):upS sv (fun x:Int=>(.int .i64 x:Value)) (some b) k x K D:=
 ⟨b,l,rfl,hm,fun g l2 hm2 hk _=>kk _ _ (hle.put _ _ nb) hm2 (fun k2=>by rw [hk,hf]) (fun c hc=>Heap.put_ne _ _ _ hc)⟩
theorem QpB {K:Option Nat→Heap→Prop} (k:∀ (b:Nat) (D:Heap) (l:List (Str×Int)),H.le D→MapIs sv (fun x:Int=>(.int .i64 x:Value)) D b l→(∀ k2,lkL k2 l=arL k2)→K (some b) D):QgU C K H:=by
 apply Qlg
 unfold Qiz
 intro b nb
 refine Qld nb ((Heap.le.refl H).put _ _ nb) MapS.new (f:=fun _=>none) (fun _=>rfl) fun D1 l1 h1 m1 f1 _=>?_
 refine Qld nb h1 m1 f1 fun D2 l2 h2 m2 f2 _=>?_
 refine Qld nb h2 m2 f2 fun D3 l3 h3 m3 f3 _=>?_
 refine Qld nb h3 m3 f3 fun D4 l4 h4 m4 f4 _=>?_
 refine Qld nb h4 m4 f4 fun D5 l5 h5 m5 f5 _=>?_
 intro b8 n8
 have ne:b8≠b:=fun e=>by
  obtain ⟨g,hg⟩:=m5.is.mine
  rw [← e,n8] at hg; cases hg
 have h6:=h5.trans (Heap.le_put n8 (m:=true) (g:=.row (opsW.map sv)))
 have m6:=m5.le (Heap.le_put n8 (m:=true) (g:=.row (opsW.map sv)))
 have c6:(D5.put b8 (.row (opsW.map sv))) b8=some (true,.row (opsW.map sv)):=Heap.put_same ..
 have hol:opsW.length=14:=rfl
 refine ⟨fun y D=>∃ (i:Nat) (l:List (Str×Int)),y=(i:Int)∧i≤14∧H.le D∧MapS sv (fun x:Int=>(.int .i64 x:Value)) D b l∧D b8=some (true,.row (opsW.map sv))∧(∀ k2,lkL k2 l=if (opsW.take i).contains k2 then some 2 else lkL k2 l5),fun y _=>14 - y.toNat,⟨0,l5,rfl,by omega,h6,m6,c6,fun k2=>by simp⟩,?_⟩
 rintro _ D ⟨i,l,rfl,hi,hD,hm,hc,hf⟩
 refine ift.of (fun h=>?_) (fun h=>?_)
 ·have hlt : i < 14 := by have := of_decide_eq_true h; simp only [Sl.of] at this; omega
  refine ⟨(b8, 0), rfl, rfl, by omega, by simp only [Sl.of]; omega, opsW[i]'(by omega), ?_, ?_⟩
  ·show rd D (b8,0+(i:Int).toNat*1)=_
   rw [QaL hc,show 0+(i:Int).toNat*1=i by omega,List.getElem?_map,List.getElem?_eq_getElem (by omega)]; rfl
  ·refine Qld nb hD hm hf fun D2 l2 h2 m2 f2 o2 => ?_
   rw [Qbl (by omega) (by omega)]
   refine ⟨⟨i+1,l2,by omega,by omega,h2,m2,by rw [o2 _ ne]; exact hc,fun k2=>?_⟩,by first | omega | (dsimp only; omega)⟩
   rw [f2,List.take_add_one,List.getElem?_eq_getElem (by omega:i < opsW.length),Option.toList_some]
   by_cases hk : k2 = opsW[i]'(by omega)
   ·rw [if_pos hk,if_pos (by rw [List.contains_iff_mem,hk]; exact List.mem_append.2 (.inr (List.mem_singleton.2 rfl)))]
   ·rw [if_neg hk]
    have : (opsW.take i ++ [opsW[i]'(by omega)]).contains k2 = (opsW.take i).contains k2 := by
     rw [Bool.eq_iff_iff,List.contains_iff_mem,List.contains_iff_mem,List.mem_append,List.mem_singleton]; exact ⟨fun h=>h.resolve_right hk,.inl⟩
    rw [this]
 ·have hie : i = 14 := by have := of_decide_eq_false h; simp only [Sl.of] at this; omega
  subst hie
  refine k b D l hD hm.is fun k2=>?_
  rw [hf,show opsW.take 14=opsW from rfl,f5]; rfl
theorem Qrp {v:V} {x:TV} {K:Bool→Heap→Prop} (hx:VIs A v x) (k:K (noV v) H):Qc2 C x K H:=by
 have hx':=QgN.1 hx
 apply Qc2.gh
 apply QlZ
 unfold Qi6
 refine box1 fun b1 H2 hle h1=>fI h1 rfl ?_
 refine ja (decide (v.n=0)) H2 (fun _=>fI h1 rfl ⟨rfl,by rw [hx'.2.1]; rfl⟩) ?_
 refine ja v.s.isEmpty H2 (fun _=>fS h1 rfl ⟨rfl,by rw [hx'.2.2.1,Qih]⟩) ?_
 refine ja (decide (v.l.length=0)) H2 (fun _=>fL h1 rfl ⟨rfl,by rw [hx'.2.2.2.len]; exact lenI (m:=0)⟩) ?_
 rw [hx'.1]
 have e:((v.k == 0 && decide (v.n=0)) && v.s.isEmpty && decide (v.l.length=0))=noV v:=rfl
 rw [e]; exact ⟨H,Gh.le hle,k⟩
theorem Qqf (hT:MaxC C):∀ (v:TyV) {x:Qd} {H:Heap} {K:Bool→Heap→Prop},TyIs A v x→A.le H→K (tyOk v) H→Qcp C x K H:=by
 refine TyV.rec_ fun v ih x H K hx hA k=>?_
 have hx':=QeI.1 hx
 have hlen:=hx'.2.len
 apply Qcp.gh
 apply Qlj
 unfold QiC
 rw [Qrl] at k
 refine box1 fun b1 H2 hle h1=>fL h1 rfl (fS h1 rfl ?_)
 have hall:∀ {K:Bool→Heap→Prop},K (v.a.all tyOk) H2→QQ C x.Args (.func (.func 133) (List.toArray []) (List.toArray []):Value) K H2:=fun k=>Qqy hx'.2 (hA.trans hle) (ok:=tyOk) (fun w hw y D Φ hD hR hΦ=>cu Qiu (ih w hw hR hD hΦ)) k
 rw [hlen]
 have e1:=hx'.1.1
 refine jp (P:=v.n=boolS∨v.n=intS∨v.n=bigS∨v.n=textS) H2 ?_ fun b hb=>?_
 ·rw [e1]
  refine ift.of (fun h=>⟨rfl,⟨fun _=>.inl (beq_iff_eq.1 h),fun _=>h⟩⟩) fun h1=>?_
  refine ift.of (fun h=>⟨rfl,⟨fun _=>.inr (.inl (beq_iff_eq.1 h)),fun _=>h⟩⟩) fun h2=>?_
  refine ift.of (fun h=>⟨rfl,⟨fun _=>.inr (.inr (.inl (beq_iff_eq.1 h))),fun _=>h⟩⟩) fun h3=>⟨rfl,⟨fun h=>.inr (.inr (.inr (beq_iff_eq.1 h))),fun h=>?_⟩⟩
  rcases h with h | h | h | h
  ·rw [h] at h1; cases h1
  ·rw [h] at h2; cases h2
  ·rw [h] at h3; cases h3
  ·rw [h]; rfl
 refine ift.of (fun h=>?_) (fun h=>?_)
 ·have hp:=hb.1 h
  have e:(tyN v.n v.a.length && v.a.all tyOk)=(((v.a.length:Nat):Int) == 0):=by
   unfold tyN
   rw [if_pos hp,show (((v.a.length:Nat):Int) == 0)=decide (v.a.length=0) from lenI (m:=0)]
   cases ha:v.a with
   | nil=>rfl
   | cons w l=>simp
  rw [← e]; exact ⟨H,Gh.le hle,k⟩
 have hp:¬ (v.n=boolS∨v.n=intS∨v.n=bigS∨v.n=textS):=fun p=>by rw [hb.2 p] at h; cases h
 unfold tyN at k
 rw [if_neg hp] at k
 refine ift.of (fun h=>?_) (fun h=>?_)
 ·rw [e1] at h
  rw [if_pos (show v.n=tupS from beq_iff_eq.1 h)] at k
  refine ja (v.a.all tyOk) H2 (fun _=>fL h1 rfl (hall ⟨rfl,rfl⟩)) ?_
  rw [show (((v.a.length:Nat):Int) != 1)=decide (v.a.length≠1) from lenN (m:=1),show decide (((v.a.length:Nat):Int)≤16)=decide (v.a.length≤16) from lenL (m:=16)]
  exact ⟨H,Gh.le hle,k⟩
 ·rw [e1] at h
  rw [if_neg (fun e:v.n=tupS=>by rw [e] at h; exact absurd h (by decide))] at k
  refine fS h1 rfl (QnF hT hx'.1 ?_)
  rw [show (((v.a.length:Nat):Int) == 0)=decide (v.a.length=0) from lenI (m:=0),show decide (((v.a.length:Nat):Int)≤8)=decide (v.a.length≤8) from lenL (m:=8)]
  refine jo' ((longS v.n && decide (v.a.length≤8)) && v.a.all tyOk) H2 (fun _=>fS h1 rfl (QlB hT hx'.1 ?_)) ?_
  ·exact ja (v.a.all tyOk) H2 (fun _=>fL h1 rfl (hall ⟨rfl,rfl⟩)) ⟨rfl,rfl⟩
  have e:((parS v.n && decide (v.a.length=0)) || ((longS v.n && decide (v.a.length≤8)) && v.a.all tyOk))=((parS v.n && decide (v.a.length=0) || longS v.n && decide (v.a.length≤8)) && v.a.all tyOk):=by
   cases hp:(parS v.n && decide (v.a.length=0)) with
   | false=>simp
   | true=>
    have h0:v.a.length=0:=by simp only [Bool.and_eq_true,decide_eq_true_eq] at hp; exact hp.2
    rw [List.length_eq_zero_iff.1 h0]; simp
  rw [e]; exact ⟨H,Gh.le hle,k⟩
theorem exN2 {p n m}:exN p 2 n m=(varS n && decide (m=0)):=rfl
theorem exN3 {p n m}:exN p 3 n m=(p && n.isEmpty && decide (m=0)):=rfl
theorem exN4 {p n m}:exN p 4 n m=(n.isEmpty && decide (m≠1) && decide (m≤16)):=rfl
theorem exN5 {p n m}:exN p 5 n m=(longS n && decide (m≤8)):=rfl
theorem exN6 {p n m}:exN p 6 n m=(!p && decide (0 < arS n) && decide (m=arS n)):=rfl
theorem exN7 {p n m}:exN p 7 n m=(!p && namS n && decide (m=1)):=rfl
theorem exN8 {p n m}:exN p 8 n m=(!p && n.isEmpty && decide (m=3)):=rfl
theorem QoN (hT:MaxC C):∀ (v:ExV) {p:Bool} {x:Qh} {H:Heap} {K:Bool→Heap→Prop},ExIs A v x→A.le H→K (exOk p v) H→QbK C x p K H:=by
 refine ExV.rec_ fun v ih p x H K hx hA k=>?_
 have hx':=Qle.1 hx
 obtain ⟨ek,en,hv,hB,hs⟩:=hx'
 have hlen:=hs.len
 apply QbK.gh
 apply QlU
 unfold Qi1
 rw [QqO] at k
 refine box2 fun b1 b3 H4 hle h1 h3=>fL h1 rfl ?_
 have hA4:=hA.trans hle
 rw [hlen]
 have l0:(((v.a.length:Nat):Int) == 0)=decide (v.a.length=0):=lenI (m:=0)
 rw [l0]
 by_cases hk1:v.k=1
 ·rw [if_pos hk1] at k
  refine ⟨fun _ _=>False,fI h1 rfl (QhZ (by rw [ek,hk1]; rfl) (fI (j:=4) h1 rfl ?_)),fun _ _ h=>h.elim⟩
  refine ja (decide (checkV v.v=0)) H4 (fun h=>fT h1 Qr1 (QkM (hv.le hA4) hB ⟨rfl,?_⟩)) ?_
  ·rw [Bool.eq_iff_iff,beq_iff_eq,decide_eq_true_eq]
  refine ja v.n.isEmpty H4 (fun h=>fS h1 rfl ⟨rfl,by rw [en.1,Qih]⟩) ?_
  have e:((((decide (x.Value_.Kind ≥ 1)) && (decide (x.Value_.Kind≤4))) && decide (checkV v.v=0)) && decide (v.a.length=0) && v.n.isEmpty)=(litV v.v && decide (v.a.length=0) && v.n.isEmpty):=by
   unfold litV mayV
   rw [(QgN.1 hv).1]
  rw [e]; exact ⟨H,Gh.le hle,k⟩
 rw [if_neg hk1] at k
 refine jw (exN p v.k v.n v.a.length) H4 (fI h1 rfl ?_) fun E hE=>?_
 ·rw [ek]
  have r0:=Heap.le.refl H4
  refine ift.of (fun h=>absurd (by simpa using h) hk1) fun _=>?_
  refine ift.of (fun h=>?_) fun n2=>?_
  ·rw [show v.k = 2 by simpa using h, exN2]
   exact fS h1 rfl (Qkh en ⟨r0,rfl⟩)
  refine ift.of (fun h=>?_) fun n3=>?_
  ·rw [show v.k = 3 by simpa using h, exN3]
   exact fB0 h3 (ja v.n.isEmpty H4 (fun h=>fS h1 rfl ⟨rfl,by rw [en.1,Qih]⟩) ⟨r0,rfl⟩)
  refine ift.of (fun h=>?_) fun n4=>?_
  ·rw [show v.k = 4 by simpa using h, exN4]
   refine fS h1 rfl ⟨r0,?_⟩
   rw [en.1,Qih,show (((v.a.length:Nat):Int) != 1)=decide (v.a.length≠1) from lenN (m:=1),show decide (((v.a.length:Nat):Int)≤16)=decide (v.a.length≤16) from lenL (m:=16)]
  refine ift.of (fun h=>?_) fun n5=>?_
  ·rw [show v.k = 5 by simpa using h, exN5]
   refine fS h1 rfl (QlB hT en ⟨r0,?_⟩)
   rw [show decide (((v.a.length:Nat):Int)≤8)=decide (v.a.length≤8) from lenL (m:=8)]
  refine ift.of (fun h=>?_) fun n6=>?_
  ·rw [show v.k = 6 by simpa using h, exN6]
   refine ⟨H4,r0,fS h1 rfl (QpB fun b D l hD hM hl=>⟨hD,?_⟩)⟩
   rw [en.1]
   have ha:=(hl v.n).trans (Qrs v.n)
   refine hM.lk (fun y hy=>⟨hD,fB0 (hD _ _ h3) ⟨hD,?_⟩⟩) (fun hy=>⟨hD,fB0 (hD _ _ h3) ⟨hD,?_⟩⟩)
   ·rw [hy] at ha
    by_cases h0:arS v.n=0
    ·rw [if_pos h0] at ha; cases ha
    ·rw [if_neg h0] at ha; injection ha with ha; subst ha
     rw [lenI]
     congr 1
     ·congr 1; rw [decide_eq_decide]; omega
     ·rw [decide_eq_decide]; exact eq_comm
   ·rw [hy] at ha
    by_cases h0:arS v.n=0
    ·rw [h0]; simp
    ·rw [if_neg h0] at ha; cases ha
  refine ift.of (fun h=>?_) fun n7=>?_
  ·rw [show v.k = 7 by simpa using h, exN7]
   refine fB0 h3 (ja (namS v.n) H4 (fun h=>fS h1 rfl (QdY hT en ⟨rfl,rfl⟩)) ⟨r0,?_⟩)
   rw [show (((v.a.length:Nat):Int) == 1)=decide (v.a.length=1) from lenI (m:=1)]
  refine ift.of (fun h=>?_) fun n8=>?_
  ·rw [show v.k = 8 by simpa using h, exN8]
   refine fB0 h3 (ja v.n.isEmpty H4 (fun h=>fS h1 rfl ⟨rfl,by rw [en.1,Qih]⟩) ⟨r0,?_⟩)
   rw [show (((v.a.length:Nat):Int) == 3)=decide (v.a.length=3) from lenI (m:=3)]
  refine ⟨r0,?_⟩
  unfold exN
  rw [if_neg (by simpa using n2),if_neg (by simpa using n3),if_neg (by simpa using n4),if_neg (by simpa using n5),if_neg (by simpa using n6),if_neg (by simpa using n7),if_neg (by simpa using n8)]
 have g1:=hE _ _ h1
 have g3:=hE _ _ h3
 have hAE:=hA4.trans hE
 refine ja (noV v.v) E (fun _=>fT g1 Qr1 (Qrp (hv.le hAE) ⟨rfl,rfl⟩)) ?_
 refine ja (v.a.all (exOk p)) E (fun _=>fL g1 rfl ?_) ?_
 ·refine QmE (hs.le hAE fun _ _ _ h => h) (Heap.le.refl E) (ok := exOk p) (fun w hw y D Φ hD hR hΦ => ⟨_, [], [pv (some (b3, 0))], rfl, QkI, ?_⟩) ⟨rfl, rfl⟩
  show QcF C y (b3,0) Φ D
  apply QcF.gh
  apply Qkv
  unfold QhR
  exact box1 fun b4 H5 hle5 h5=>bxT h5 (fB0 (hle5 _ _ (hD _ _ g3)) (ih w hw hR (hAE.trans (hD.trans hle5)) ⟨D,Gh.le hle5,hΦ⟩))
 exact ⟨H,Gh.le (hle.trans hE),k⟩
end
end
section
open Go Go.Proofs
section
variable {C:Ctx} {H A:Heap}
theorem Qof (hT:MaxC C) {v:ExV} {x:Qh} {K:Bool→Heap→Prop} (hx:ExIs A v x) (hA:A.le H) (k:K (exOk true v) H):Qb2 C x K H:=by
 apply Qb2.gh
 apply Qjw
 unfold Qhj
 exact box1 fun b1 H2 hle h1=>bxT h1 (QoN hT v hx (hA.trans hle) ⟨H,Gh.le hle,k⟩)
theorem QoI (hT:MaxC C) {v:ExV} {x:Qh} {K:Bool→Heap→Prop} (hx:ExIs A v x) (hA:A.le H) (k:K (exOk false v) H):QbJ C x K H:=by
 apply QbJ.gh
 apply QlT
 unfold Qi0
 exact box1 fun b1 H2 hle h1=>bxT h1 (QoN hT v hx (hA.trans hle) ⟨H,Gh.le hle,k⟩)
theorem QrN {l:List ExV} (h:l.length=1) (h0:0 < l.length) (p:Bool):exsOk p l=exOk p l[0]:=by
 match l,h with
 | [w],_=>simp [exsOk]
theorem Qm5 (hT:MaxC C) {l:List ExV} {s:Sl} {K:Bool→Heap→Prop} (hs:ExL A s l) (hA:A.le H) (k:K (exsOk true l) H):QB C s (.func (.func 144) (List.toArray []) (List.toArray []):Value) K H:=by
 rw [Qii] at k
 exact QmE hs hA (fun w hw y D Φ hD hR hΦ=>cu Qj6 (Qof hT hR hD hΦ)) k
theorem QpO (hT:MaxC C) {l:List ExV} {s:Sl} {K:Bool→Heap→Prop} (hs:ExL A s l) (hA:A.le H) (k:K (exsOk false l) H):QB C s (.func (.func 138) (List.toArray []) (List.toArray []):Value) K H:=by
 rw [Qii] at k
 exact QmE hs hA (fun w hw y D Φ hD hR hΦ=>cu Qg5 (QoI hT hR hD hΦ)) k
theorem Qob (hT:MaxC C) {v:LiV} {x:Qk} {K:Bool→Heap→Prop} (hx:LiIs A v x) (hA:A.le H) (k:K (liOk v) H):Qb1 C x K H:=by
 obtain ⟨ek,en,hs⟩:=hx
 have hlen:=hs.len
 apply Qb1.gh
 apply Qjv
 unfold Qhi
 refine box1 fun b1 H2 hle h1=>fI h1 rfl ?_
 have hA2:=hA.trans hle
 rw [ek]
 unfold liOk at k
 refine jp (P:=v.k=1∨v.k=2) H2 (ift.of (fun h=>⟨rfl,fun _=>.inl (by simpa using h),fun _=>h⟩) (fun h=>⟨rfl,fun h=>.inr (by simpa using h),fun h'=>?_⟩)) fun b hb=>?_
 ·rcases h' with h' | h'
  ·rw [h'] at h; cases h
  ·rw [h']; rfl
 refine ift.of (fun h=>?_) (fun h=>?_)
 ·rw [if_pos (hb.1 h)] at k
  refine fS h1 rfl (QlB hT en ?_)
  refine ja (decide (v.a.length≤8)) H2 (fun _=>fL h1 rfl ⟨rfl,by rw [hlen]; exact lenL (m:=8)⟩) ?_
  exact ja (exsOk true v.a) H2 (fun _=>fL h1 rfl (Qm5 hT hs hA2 ⟨rfl,rfl⟩)) ⟨H,Gh.le hle,k⟩
 rw [if_neg (fun p=>by rw [hb.2 p] at h; cases h)] at k
 have hone:∀ {b:Bool} {K:Bool→Heap→Prop},(b && decide (v.a.length=1))=true→K (exsOk false v.a) H2→ldL H2 ((b1,0).1,(b1,0).2+4) fun x45=>ixa x45 0 fun p47=>ldT H2 Qh.c (p47.1,p47.2+(0:Int).toNat*9) fun x52=>QbJ C x52 K H2:=fun {b} {K} hb hk=>by
  simp only [Bool.and_eq_true,decide_eq_true_eq] at hb
  have h0:0 < v.a.length:=by omega
  rw [QrN hb.2 h0] at hk
  exact fL h1 rfl (SlIs.ld hs hA2 Qlz (by omega) (i:=0) rfl h0 fun y hy=>QoI hT hy hA2 hk)
 refine ift.of (fun h=>?_) (fun h=>?_)
 ·rw [if_pos (by simpa using h)] at k
  refine fS h1 rfl ?_
  refine ja (decide (v.a.length=1)) H2 (fun _=>fL h1 rfl ⟨rfl,by rw [hlen]; exact lenI (m:=1)⟩) ?_
  refine ja (exsOk false v.a) H2 (fun h=>hone h ⟨rfl,rfl⟩) ?_
  rw [en.1,Qih]; exact ⟨H,Gh.le hle,k⟩
 rw [if_neg (by simpa using h)] at k
 refine ift.of (fun h=>?_) (fun h=>?_)
 ·rw [if_pos (by simpa using h)] at k
  refine fS h1 rfl (Qkh en ?_)
  refine ja (decide (v.a.length=1)) H2 (fun _=>fL h1 rfl ⟨rfl,by rw [hlen]; exact lenI (m:=1)⟩) ?_
  exact ja (exsOk false v.a) H2 (fun h=>hone h ⟨rfl,rfl⟩) ⟨H,Gh.le hle,k⟩
 ·rw [if_neg (by simpa using h)] at k
  exact ⟨H,Gh.le hle,k⟩
theorem QjU (hT:MaxC C) {l:List LiV} {s:Sl} {K:Bool→Heap→Prop} (hs:LiL A s l) (hA:A.le H) (k:K (l.all liOk) H):QC C s (.func (.func 53) (List.toArray []) (List.toArray []):Value) K H:=
 QnX hs hA (fun w hw y D Φ hD hR hΦ=>cu Qj5 (Qob hT hR hD hΦ)) k
theorem Qn6 (hT:MaxC C) {v:FdV} {x:Qf} {b:Nat} {nm:Bool} {K:Bool→Heap→Prop} (hx:FdIs A v x) (hA:A.le H) (hb:H b=some (true,.row [.bool nm])) (k:K (fdOk nm v) H):Qbx C x (b,0) K H:=by
 apply Qbx.gh
 apply Qjb
 unfold Qgq
 refine box1 fun b1 H2 hle h1=>fS h1 rfl (QdY hT hx.1 ?_)
 refine jo' (!nm && v.n.isEmpty) H2 (fun _=>fB0 (hle _ _ hb) (ja v.n.isEmpty H2 (fun _=>fS h1 rfl ⟨rfl,by rw [hx.1.1,Qih]⟩) ⟨rfl,rfl⟩)) ?_
 exact ja (tyOk v.t) H2 (fun _=>fT h1 QrY (Qqf hT v.t hx.2 (hA.trans hle) ⟨rfl,rfl⟩)) ⟨H,Gh.le hle,k⟩
theorem Ql9 (hT:MaxC C) {l:List FdV} {s:Sl} {nm:Bool} {K:Bool→Heap→Prop} (hs:FdL A s l) (hA:A.le H) (k:K (fdsOk nm l) H):Qbd C s nm K H:=by
 apply Qbd.gh
 apply Qku
 unfold QhQ
 refine box1 fun b1 H2 hle h1=>?_
 have hA2:=hA.trans hle
 refine ja (l.all (fdOk nm)) H2 (fun _=>?_) ?_
 ·exact QmF (hs.le hA2 fun _ _ _ h=>h) (Heap.le.refl H2) (ok:=fdOk nm) (fun w hw y D Φ hD hR hΦ=>⟨_,[],[pv (some (b1,0))],rfl,Qjg,Qn6 hT hR (hA2.trans hD) (hD _ _ h1) hΦ⟩) ⟨rfl,rfl⟩
 rw [hs.len,show decide (((l.length:Nat):Int)≤8)=decide (l.length≤8) from lenL (m:=8)]
 exact ⟨H,Gh.le hle,k⟩
theorem QqI (hT:MaxC C) {v:CnV} {x:Qc} {K:Bool→Heap→Prop} (hx:CnIs A v x) (hA:A.le H) (k:K (cnOk v) H):Qba C x K H:=by
 apply Qba.gh
 apply QiJ
 unfold QfT
 refine box1 fun b1 H2 hle h1=>fS h1 rfl (QdY hT hx.1 ?_)
 exact ja (fdsOk false v.f) H2 (fun _=>fL h1 rfl (Ql9 hT hx.2 (hA.trans hle) ⟨rfl,rfl⟩)) ⟨H,Gh.le hle,k⟩
theorem geI {n m:Nat}:decide (((n:Nat):Int) ≥ (m:Int))=decide (m≤n):=by rw [decide_eq_decide]; omega
theorem gtI {n m:Nat}:decide (((n:Nat):Int) > (m:Int))=decide (m < n):=by rw [decide_eq_decide]; omega
theorem Qom (hT:MaxC C) {v:TdV} {x:Qb} {K:Bool→Heap→Prop} (hx:TdIs A v x) (hA:A.le H) (k:K (tdOk v) H):Qb3 C x K H:=by
 apply Qb3.gh
 apply Qjx
 unfold Qhk
 obtain ⟨_,en,hps,hcs⟩:=hx
 have l1:=SlIs.len hps
 have l2:=hcs.len
 refine box1 fun b1 H2 hle h1=>fS h1 rfl (QdY hT en ?_)
 have hA2:=hA.trans hle
 refine ja (decide (v.ps.length≤8)) H2 (fun _=>fL h1 rfl ⟨rfl,by rw [l1]; exact lenL (m:=8)⟩) ?_
 refine ja (v.ps.all parS) H2 (fun _=>fL h1 rfl (Ql0 hps hA2 (fun w hw D Φ hD hl hΦ=>cu Qit (QnF hT ⟨rfl,hl⟩ hΦ)) ⟨rfl,rfl⟩)) ?_
 refine ja (decide (1≤v.cs.length)) H2 (fun _=>fL h1 rfl ⟨rfl,by rw [l2]; exact geI (m:=1)⟩) ?_
 refine ja (decide (v.cs.length≤16)) H2 (fun _=>fL h1 rfl ⟨rfl,by rw [l2]; exact lenL (m:=16)⟩) ?_
 exact ja (v.cs.all cnOk) H2 (fun _=>fL h1 rfl (QnW hcs hA2 (fun w hw y D Φ hD hR hΦ=>cu QiR (QqI hT hR hD hΦ)) ⟨rfl,rfl⟩)) ⟨H,Gh.le hle,k⟩
theorem Qri (hT:MaxC C) {v:RuV} {x:Qi} {K:Bool→Heap→Prop} (hx:RuIs A v x) (hA:A.le H) (k:K (ruOk v) H):QdL C x K H:=by
 apply QdL.gh
 apply QlY
 unfold Qi5
 obtain ⟨en,ha,hg,hb⟩:=hx
 have l1:=ha.len
 have l2:=SlIs.len hg
 refine box1 fun b1 H2 hle h1=>fS h1 rfl (QlB hT en ?_)
 have hA2:=hA.trans hle
 refine ja (decide (v.a.length≤8)) H2 (fun _=>fL h1 rfl ⟨rfl,by rw [l1]; exact lenL (m:=8)⟩) ?_
 refine ja (decide (v.g.length=v.a.length)) H2 (fun _=>fL h1 rfl (fL h1 rfl ⟨rfl,by rw [l1,l2]; exact lenI⟩)) ?_
 refine ja (exsOk false v.a) H2 (fun _=>fL h1 rfl (QpO hT ha hA2 ⟨rfl,rfl⟩)) ?_
 refine ja (v.b.all liOk) H2 (fun _=>fL h1 rfl (QjU hT hb hA2 ⟨rfl,rfl⟩)) ?_
 refine ja (v.g.all agOk) H2 (fun _=>fL h1 rfl (Ql0 hg hA2 (fun w hw D Φ hD hl hΦ=>cu QkJ ?_) ⟨rfl,rfl⟩)) ⟨H,Gh.le hle,k⟩
 show Qid C w Φ D
 apply Qkw
 unfold QhS
 have e:(((((w == ([]:Str)) || (w == ([99,111,117,110,116]:Str))) || (w == ([115,117,109]:Str))) || (w == ([109,105,110]:Str))) || (w == ([109,97,120]:Str)))=agOk w:=by
  unfold agOk countS sumS minS maxS
  rw [Bool.eq_iff_iff]; simp only [Bool.or_eq_true,beq_iff_eq,decide_eq_true_eq,or_assoc]
 rw [e]; exact hΦ
theorem QpY (hT:MaxC C) {v:NeV} {x:Ql} {K:Bool→Heap→Prop} (hx:NeIs A v x) (hA:A.le H) (k:K (neOk v) H):QbY C x K H:=by
 apply QbY.gh
 apply Qjs
 unfold Qhf
 have l1:=hx.2.len
 refine box1 fun b1 H2 hle h1=>fS h1 rfl (QdY hT hx.1 ?_)
 refine ja (decide (0 < v.b.length)) H2 (fun _=>fL h1 rfl ⟨rfl,by rw [l1]; exact gtI (m:=0)⟩) ?_
 exact ja (v.b.all liOk) H2 (fun _=>fL h1 rfl (QjU hT hx.2 (hA.trans hle) ⟨rfl,rfl⟩)) ⟨H,Gh.le hle,k⟩
theorem Qph (hT:MaxC C) {v:RdV} {x:Qg} {K:Bool→Heap→Prop} (hx:RdIs A v x) (hA:A.le H) (k:K (rdOk v) H):QbX C x K H:=by
 apply QbX.gh
 apply Qjr
 unfold Qhe
 refine box1 fun b1 H2 hle h1=>fS h1 rfl (QdY hT hx.2.2.1 ?_)
 exact ja (fdsOk true v.f) H2 (fun _=>fL h1 rfl (Ql9 hT hx.2.2.2 (hA.trans hle) ⟨rfl,rfl⟩)) ⟨H,Gh.le hle,k⟩
theorem QoO (hT:MaxC C) {v:Str} {x:Qn} {K:Bool→Heap→Prop} (hx:ImIs v x) (k:K (namS v) H):QbW C x K H:=by
 apply QbW.gh
 apply Qjq
 unfold Qhd
 exact box1 fun b1 H2 hle h1=>fS h1 rfl (QdY hT hx ⟨H,Gh.le hle,k⟩)
theorem QqQ {v:RuV} {x:Qi} {K:Bool→Heap→Prop} (hx:RuIs A v x) (k:K (decide (v.b.length≤12)) H):QbZ C x K H:=by
 apply QbZ.gh
 apply Qjt
 unfold Qhg
 refine box1 fun b1 H2 hle h1=>fL h1 rfl ?_
 rw [hx.2.2.2.len,show decide (((v.b.length:Nat):Int)≤12)=decide (v.b.length≤12) from lenL (m:=12)]
 exact ⟨H,Gh.le hle,k⟩
theorem QqR {v:NeV} {x:Ql} {K:Bool→Heap→Prop} (hx:NeIs A v x) (k:K (decide (v.b.length≤12)) H):Qb0 C x K H:=by
 apply Qb0.gh
 apply Qju
 unfold Qhh
 refine box1 fun b1 H2 hle h1=>fL h1 rfl ?_
 rw [hx.2.len,show decide (((v.b.length:Nat):Int)≤12)=decide (v.b.length≤12) from lenL (m:=12)]
 exact ⟨H,Gh.le hle,k⟩
theorem Qpv (hT:MaxC C) {v:MoV} {x:Qa} {K:Int→Heap→Prop} (hx:MoIs A v x) (hA:A.le H) (hb:moD v≤4611686018427387904) (k:K (moC v) H):Qco C x K H:=by
 apply Qco.gh
 apply Qlf
 unfold Qiy
 refine box1 fun b1 H2 hle h1=>bxT h1 ?_
 have hA2:=hA.trans hle
 refine QqJ hx hA2 hb ?_
 obtain ⟨en,him,hty,hre,hru,hne⟩:=hx
 unfold moC at k
 refine ift.of (fun h=>?_) (fun h=>?_)
 ·rw [if_pos (by have:=of_decide_eq_true h; omega)] at k; exact ⟨H,Gh.le hle,k⟩
 rw [if_neg (by have:=of_decide_eq_false h; omega)] at k
 refine fS h1 rfl (QdY hT en ?_)
 refine jo' (!v.im.all namS) H2 (fun _=>fL h1 rfl (Qon him hA2 (fun w hw y D Φ hD hR hΦ=>cu Qj0 (QoO hT hR hΦ)) ⟨rfl,rfl⟩)) ?_
 refine jo' (!v.ty.all tdOk) H2 (fun _=>fL h1 rfl (QnY hty hA2 (fun w hw y D Φ hD hR hΦ=>cu Qj7 (Qom hT hR hD hΦ)) ⟨rfl,rfl⟩)) ?_
 refine jo' (!v.re.all rdOk) H2 (fun _=>fL h1 rfl (Qoo hre hA2 (fun w hw y D Φ hD hR hΦ=>cu Qj1 (Qph hT hR hD hΦ)) ⟨rfl,rfl⟩)) ?_
 refine jo' (!v.ru.all ruOk) H2 (fun _=>fL h1 rfl (Qop hru hA2 (fun w hw y D Φ hD hR hΦ=>cu Qmm (Qri hT hR hD hΦ)) ⟨rfl,rfl⟩)) ?_
 refine jo' (!v.ne.all neOk) H2 (fun _=>fL h1 rfl (Qnh hne hA2 (fun w hw y D Φ hD hR hΦ=>cu Qj2 (QpY hT hR hD hΦ)) ⟨rfl,rfl⟩)) ?_
 have e1:(((((!namS v.n || !v.im.all namS) || !v.ty.all tdOk) || !v.re.all rdOk) || !v.ru.all ruOk) || !v.ne.all neOk)=!moOk v:=by unfold moOk; simp only [Bool.not_and]
 rw [e1]
 refine ift.of (fun h=>?_) (fun h=>?_)
 ·rw [if_pos (by simpa using h)] at k; exact ⟨H,Gh.le hle,k⟩
 rw [if_neg (by simpa using h)] at k
 refine fL h1 rfl ?_
 refine jo' (decide (64 < v.ty.length)) H2 (fun _=>fL h1 rfl ⟨rfl,by rw [hty.len]; exact gtI (m:=64)⟩) ?_
 refine jo' (decide (64 < v.re.length)) H2 (fun _=>fL h1 rfl ⟨rfl,by rw [hre.len]; exact gtI (m:=64)⟩) ?_
 refine jo' (decide (256 < v.ru.length)) H2 (fun _=>fL h1 rfl ⟨rfl,by rw [hru.len]; exact gtI (m:=256)⟩) ?_
 refine jo' (decide (256 < v.ne.length)) H2 (fun _=>fL h1 rfl ⟨rfl,by rw [hne.len]; exact gtI (m:=256)⟩) ?_
 refine jo' (!v.ru.all (fun r=>decide (r.b.length≤12))) H2 (fun _=>fL h1 rfl (Qop hru hA2 (fun w hw y D Φ hD hR hΦ=>cu Qj3 (QqQ hR hΦ)) ⟨rfl,rfl⟩)) ?_
 refine jo' (!v.ne.all (fun n=>decide (n.b.length≤12))) H2 (fun _=>fL h1 rfl (Qnh hne hA2 (fun w hw y D Φ hD hR hΦ=>cu Qj4 (QqR hR hΦ)) ⟨rfl,rfl⟩)) ?_
 rw [him.len,show decide (((v.im.length:Nat):Int) > 8)=decide (8 < v.im.length) from gtI (m:=8)]
 have nd:∀ a b:Nat,decide (a < b)=!decide (b≤a):=fun a b=>by rw [Bool.eq_iff_iff]; simp
 have e2:(((((((decide (8 < v.im.length)) || decide (64 < v.ty.length)) || decide (64 < v.re.length)) || decide (256 < v.ru.length)) || decide (256 < v.ne.length)) || !v.ru.all (fun r=>decide (r.b.length≤12))) || !v.ne.all (fun n=>decide (n.b.length≤12)))=!moFew v:=by
  unfold moFew; simp only [Bool.not_and,nd]
 rw [e2]
 refine ift.of (fun h=>?_) (fun h=>?_)
 ·rw [if_pos (by simpa using h)] at k; exact ⟨H,Gh.le hle,k⟩
 ·rw [if_neg (by simpa using h)] at k; exact ⟨H,Gh.le hle,k⟩
end
end
section
open Go Go.Proofs
section
variable {C:Ctx} {A:Heap} {b:Nat}
end
end
section
open Go Go.Proofs
section
variable {C:Ctx} {A H:Heap} {b:Nat}
end
end
section
open Go Go.Proofs
section
variable {C:Ctx} {A H:Heap} {b:Nat}
end
end
section
open Go Go.Proofs
section
variable {A:Heap}
end
end
section
open Go Go.Proofs
theorem bq {a b a' b':Bool} (ha:a=a') (hb:b=b'):((a == b)=true↔a' = b'):=by rw [ha,hb]; simp
section
variable {C:Ctx} {H A:Heap}
end
end
section
open Go Go.Proofs
theorem n1 {b:Bool} {P Q:Prop} (hb:b=true ↔ ¬P) (h:b=true):(true=true ↔ ¬(P∧Q)):=⟨fun _ hh=>hb.1 h hh.1,fun _=>rfl⟩
theorem n2 {b r:Bool} {P Q:Prop} (hb:b=true ↔ ¬P) (h:b=false) (hr:r=true ↔ ¬Q):(r=true ↔ ¬(P∧Q)):=by
 have hp:P:=Classical.byContradiction fun e=>by rw [hb.2 e] at h; cases h
 rw [hr]; exact ⟨fun hq hh=>hq hh.2,fun hh hq=>hh ⟨hp,hq⟩⟩
theorem n3 {b:Bool} {P:Prop} (hb:b=true ↔ ¬P) (h:b=false):P:=Classical.byContradiction fun e=>by rw [hb.2 e] at h; cases h
section
variable {C:Ctx} {H A:Heap}
end
end
section
open Go Go.Proofs
section
variable {C:Ctx} {H A:Heap}
end
end
section
open Go Go.Proofs
def V0:V:=.mk 0 0 [] []
theorem Qr2 {E:Heap}:VIs E V0 Qm.zero:=QgN.2 ⟨rfl,rfl,rfl,[],.inl rfl,rfl,trivial⟩
theorem V0_B:VB V0:=by simp [V0,VB,VBs]
end
section
open Go
abbrev Pl:=Int×Int
inductive ExP where
 | mk (p:Pl) (k:Int) (n:Str) (v:V) (a:List ExP)
structure LiP where
 p:Pl
 k:Int
 r:Str
 a:List ExP
structure TdP where
 p:Pl
 b:Bool
 n:Str
 ps:List Str
 cs:List CnV
structure RdP where
 p:Pl
 b:Bool
 i:Bool
 n:Str
 f:List FdV
structure RuP where
 p:Pl
 r:Str
 a:List ExP
 g:List Str
 b:List LiP
structure NeP where
 p:Pl
 n:Str
 b:List LiP
structure ImP where
 p:Pl
 n:Str
structure MoP where
 n:Str
 im:List ImP
 ty:List TdP
 re:List RdP
 ru:List RuP
 ne:List NeP
def ExP.p:ExP→Pl | .mk p _ _ _ _=>p
def ExP.k:ExP→Int | .mk _ k _ _ _=>k
def ExP.n:ExP→Str | .mk _ _ n _ _=>n
def ExP.v:ExP→V | .mk _ _ _ v _=>v
def ExP.a:ExP→List ExP | .mk _ _ _ _ a=>a
theorem ExP.rec_ {P:ExP→Prop} (h:∀ v,(∀ w ∈ v.a,P w)→P v):∀ v,P v
 | .mk p k n u a=>h _ fun w hw=>by
  have:sizeOf w < sizeOf a:=List.sizeOf_lt_of_mem hw
  exact ExP.rec_ h w
termination_by v=>sizeOf v
decreasing_by simp_wf; have:sizeOf w < sizeOf a:=List.sizeOf_lt_of_mem hw; omega
mutual
/-- without places -/
def ExP.e:ExP→ExV
 | .mk _ k n v a=>.mk k n v (exsE a)
def exsE:List ExP→List ExV
 | []=>[]
 | v::l=>v.e::exsE l
end
theorem Qnt:∀ l:List ExP,exsE l=l.map ExP.e
 | []=>rfl
 | v::l=>by rw [exsE,Qnt l]; rfl
theorem ExP.e_eq (v:ExP):v.e=.mk v.k v.n v.v (v.a.map ExP.e):=by obtain ⟨p,k,n,u,a⟩:=v; rw [ExP.e,Qnt]; rfl
def LiP.e (x:LiP):LiV:=⟨x.k,x.r,x.a.map ExP.e⟩
def TdP.e (x:TdP):TdV:=⟨x.b,x.n,x.ps,x.cs⟩
def RdP.e (x:RdP):RdV:=⟨x.b,x.i,x.n,x.f⟩
def RuP.e (x:RuP):RuV:=⟨x.r,x.a.map ExP.e,x.g,x.b.map LiP.e⟩
def NeP.e (x:NeP):NeV:=⟨x.n,x.b.map LiP.e⟩
def MoP.e (m:MoP):MoV:=⟨m.n,m.im.map ImP.n,m.ty.map TdP.e,m.re.map RdP.e,m.ru.map RuP.e,m.ne.map NeP.e⟩
def mpO {α β:Type} (f:α→Option β):List α→Option (List β)
 | []=>some []
 | v :: l => match f v with
  | none=>none
  | some w => match mpO f l with
   | none=>none
   | some r=>some (w::r)
def mpE {ε α β:Type} (f:α→Except ε β):List α→Except ε (List β)
 | []=>.ok []
 | v :: l => match f v with
  | .error e=>.error e
  | .ok w => match mpE f l with
   | .error e=>.error e
   | .ok r=>.ok (w::r)
abbrev Ky:=Str×Str×Int
abbrev Tl:=List (Ky×Bool)
def tellF (T:Tl) (k:Ky) (b:Bool):Bool×Tl:=match lkL k T with
 | some _=>(false,T)
 | none=>(true,T++[(k,b)])
mutual
def freeTy (ps:List Str):TyV→Bool
 | .mk n a=>if n.headD 0=39 then !ps.contains n else freeTys ps a
def freeTys (ps:List Str):List TyV→Bool
 | []=>false
 | v::l=>freeTy ps v || freeTys ps l
end
def openF (ps:List Str) (l:List FdV):Bool:=l.any fun f=>freeTy ps f.t
def csNm (m:Str) (b:Bool):Bool×Tl→List CnV→Bool×Tl
 | s,[]=>s
 | s,c::l=>csNm m b ((tellF s.2 (m,c.n,1) b).1 && s.1,(tellF s.2 (m,c.n,1) b).2) l
def tyNm (m:Str) (t:TdP) (T:Tl):Bool×Tl:=csNm m t.b ((tellF T (m,t.n,0) t.b).1 && decide t.ps.Nodup,(tellF T (m,t.n,0) t.b).2) t.cs
abbrev Er:=Str×Pl×Int
def namesTy (m:Str):List TdP→Tl→Except Er Tl
 | [],T=>.ok T
 | t::l,T=>if (tyNm m t T).1=false then .error (m,t.p,6) else if t.cs.any (fun c=>openF t.ps c.f)=true then .error (m,t.p,63) else namesTy m l (tyNm m t T).2
def namesRe (m:Str):List RdP→Tl→Except Er Tl
 | [],T=>.ok T
 | x::l,T=>if (tellF T (m,x.n,2) x.b).1=false then .error (m,x.p,6) else if openF [] x.f=true then .error (m,x.p,63) else namesRe m l (tellF T (m,x.n,2) x.b).2
def namesNe (m:Str):List NeP→Tl→Except Er Tl
 | [],T=>.ok T
 | x::l,T=>if (tellF T (m,x.n,3) false).1=false then .error (m,x.p,6) else namesNe m l (tellF T (m,x.n,3) false).2
def namesF (m:MoP) (T:Tl):Except Er Tl:=match namesTy m.n m.ty T with
 | .error e=>.error e
 | .ok T1 => match namesRe m.n m.re T1 with
  | .error e=>.error e
  | .ok T2=>namesNe m.n m.ne T2
def namesAll:List MoP→Tl→Except Er Tl
 | [],T=>.ok T
 | m :: l, T => match namesF m T with
  | .error e=>.error e
  | .ok T1=>namesAll l T1
def singleF:List Str→List MoP→Option Er
 | _,[]=>none
 | ns,m::r=>if moC m.e≠0 then some (m.n,(0,0),moC m.e) else if ns.contains m.n=true then some (m.n,(0,0),6) else singleF (ns++[m.n]) r
/-- the place of a module; azs many azs there are: there is none -/
def findN:List MoP→Str→Nat
 | [],_=>0
 | m::l,s=>if m.n=s then 0 else findN l s+1
def impA1 (l:List MoP) (m:Str):List Str→List ImP→Option Er
 | _,[]=>none
 | ps,x::r=>if l.length≤findN l x.n then some (m,x.p,63) else if ps.contains x.n=true then some (m,x.p,6) else impA1 l m (ps++[x.n]) r
def impA (l:List MoP):List MoP→Option Er
 | []=>none
 | m :: r => match impA1 l m.n [] m.im with
  | some e=>some e
  | none=>impA l r
def adj (l:List MoP) (i:Nat):List Nat:=match l[i]? with
 | none=>[]
 | some m=>m.im.map fun x=>findN l x.n
def comeF (l:List MoP) (a:Nat):Nat→Nat→Bool
 | 0,j=>decide (j=a)
 | n+1,j=>comeF l a n j || (List.range l.length).any fun i=>comeF l a n i && (adj l i).contains j
def reachF (l:List MoP) (a b:Nat):Bool:=comeF l a l.length b
def impB1 (l:List MoP) (m:Str) (i:Nat):List ImP→Option Er
 | []=>none
 | x::r=>if reachF l (findN l x.n) i=true then some (m,x.p,64) else impB1 l m i r
def impBf (l:List MoP):Nat→List MoP→Option Er
 | _,[]=>none
 | i, m :: r => match impB1 l m.n i m.im with
  | some e=>some e
  | none=>impBf l (i+1) r
def dotS (a b:Str):Str:=(a++[46])++b
def cutN (m s:Str):Str×Str:=match cutD s with
 | some p=>p
 | none=>(m,s)
def impd (m:MoP) (s:Str):Bool:=m.im.any fun x=>decide (x.n=s)
def meanF (T:Tl) (m:MoP) (s:Str) (k:Int):Option Str:=match lkL (((cutN m.n s).1,(cutN m.n s).2,k):Ky) T with
 | none=>none
 | some b=>if (decide ((cutN m.n s).1=m.n) || (b && impd m (cutN m.n s).1))=true then some (dotS (cutN m.n s).1 (cutN m.n s).2) else none
def primS (n:Str):Bool:=decide (n=boolS) || decide (n=intS) || decide (n=bigS) || decide (n=textS) || decide (n=tupS)
def tnF (T:Tl) (m:MoP) (n:Str):Option Str:=if (primS n || decide (n.headD 0=39))=true then some n else meanF T m n 0
mutual
def tyF (T:Tl) (m:MoP):TyV→Option TyV
 | .mk n a => match tnF T m n with
  | none=>none
  | some n' => match tysF T m a with
   | none=>none
   | some a'=>some (.mk n' a')
def tysF (T:Tl) (m:MoP):List TyV→Option (List TyV)
 | []=>some []
 | v :: l => match tyF T m v with
  | none=>none
  | some w => match tysF T m l with
   | none=>none
   | some r=>some (w::r)
end
theorem Qpt (T:Tl) (m:MoP):∀ l,tysF T m l=mpO (tyF T m) l
 | []=>rfl
 | v::l=>by
  rw [tysF,mpO,Qpt T m l]
  cases tyF T m v with
  | none=>rfl
  | some w=>cases mpO (tyF T m) l <;> rfl
def fdF (T:Tl) (m:MoP) (f:FdV):Option FdV:=match tyF T m f.t with
 | none=>none
 | some t=>some ⟨f.n,t⟩
def cnF (T:Tl) (m:MoP) (c:CnV):Option CnV:=match mpO (fdF T m) c.f with
 | none=>none
 | some f=>some ⟨dotS m.n c.n,f⟩
def tdF (T:Tl) (m:MoP) (t:TdP):Except Pl TdP:=match mpO (cnF T m) t.cs with
 | none=>.error t.p
 | some cs=>.ok ⟨t.p,t.b,dotS m.n t.n,t.ps,cs⟩
def rdF (T:Tl) (m:MoP) (x:RdP):Except Pl RdP:=match mpO (fdF T m) x.f with
 | none=>.error x.p
 | some f=>.ok ⟨x.p,x.b,x.i,dotS m.n x.n,f⟩
def enF (T:Tl) (m:MoP) (k:Int) (n:Str):Option Str:=if k=5 then meanF T m n 1 else some n
mutual
def exF (T:Tl) (m:MoP):ExP→Except Pl ExP
 | .mk p k n v a => match enF T m k n with
  | none=>.error p
  | some n' => match exsF T m a with
   | .error q=>.error q
   | .ok a'=>.ok (.mk p k n' v a')
def exsF (T:Tl) (m:MoP):List ExP→Except Pl (List ExP)
 | []=>.ok []
 | v :: l => match exF T m v with
  | .error q=>.error q
  | .ok w => match exsF T m l with
   | .error q=>.error q
   | .ok r=>.ok (w::r)
end
theorem QoL (T:Tl) (m:MoP):∀ l,exsF T m l=mpE (exF T m) l
 | []=>rfl
 | v::l=>by
  rw [exsF,mpE,QoL T m l]
  cases exF T m v with
  | error q=>rfl
  | ok w=>cases mpE (exF T m) l <;> rfl
def lnF (T:Tl) (m:MoP) (k:Int) (r:Str):Option Str:=if k=1∨k=2 then meanF T m r 2 else some r
def liF (T:Tl) (m:MoP) (x:LiP):Except Pl LiP:=match lnF T m x.k x.r with
 | none=>.error x.p
 | some r => match mpE (exF T m) x.a with
  | .error q=>.error q
  | .ok a=>.ok ⟨x.p,x.k,r,a⟩
def ruF (T:Tl) (m:MoP) (x:RuP):Except Pl RuP:=match meanF T m x.r 2 with
 | none=>.error x.p
 | some r => if (m.n ++ [46]).isPrefixOf r = false then .error x.p else match mpE (exF T m) x.a with
  | .error q=>.error q
  | .ok a => match mpE (liF T m) x.b with
   | .error q=>.error q
   | .ok b=>.ok ⟨x.p,r,a,x.g,b⟩
def neF (T:Tl) (m:MoP) (x:NeP):Except Pl NeP:=match mpE (liF T m) x.b with
 | .error q=>.error q
 | .ok b=>.ok ⟨x.p,dotS m.n x.n,b⟩
/-- a module behind what there is -/
def usedF (T:Tl) (o m:MoP):Except Pl MoP:=match mpE (tdF T m) m.ty with
 | .error q=>.error q
 | .ok a => match mpE (rdF T m) m.re with
  | .error q=>.error q
  | .ok b => match mpE (ruF T m) m.ru with
   | .error q=>.error q
   | .ok c => match mpE (neF T m) m.ne with
    | .error q=>.error q
    | .ok d=>.ok ⟨o.n,o.im,o.ty++a,o.re++b,o.ru++c,o.ne++d⟩
def usedAll (T:Tl):MoP→List MoP→Except Er MoP
 | o,[]=>.ok o
 | o, m :: l => match usedF T o m with
  | .error q=>.error (m.n,q,63)
  | .ok o1=>usedAll T o1 l
def total {α:Type} (f:MoP→List α):List MoP→Nat
 | []=>0
 | m::l=>(f m).length+total f l
def totB (l:List MoP):Bool:=decide (64 < total MoP.ty l) || decide (64 < total MoP.re l) || decide (256 < total MoP.ru l) || decide (256 < total MoP.ne l)
/-- modules azs one program -/
def flatF (l:List MoP):Except Er MoP:=
 if l.length=0 then .error ([],(0,0),1) else if 8 < l.length then .error ([],(0,0),3) else
 match singleF [] l with
 | some e=>.error e
 | none => match impA l l with
  | some e=>.error e
  | none => match impBf l 0 l with
   | some e=>.error e
   | none => match namesAll l [] with
    | .error e=>.error e
    | .ok T=>if totB l=true then .error ([],(0,0),3) else usedAll T ⟨(l.head?.map MoP.n).getD [],[],[],[],[],[]⟩ l
end
section
open Go Go.Proofs
def psP (p:Pl):Qj:=⟨p.1,p.2⟩
mutual
def EpIs (H:Heap):ExP→Qh→Prop
 | .mk p k n v a,x=>x.Pos=psP p∧x.Kind=k∧Nm x.Name n∧VIs H v x.Value_∧VB v∧∃ xs:List Qh,rdsl H x.Args (xs.flatMap Qh.c)∧x.Args.len=xs.length∧a.length≤140737488355328∧EpsAre H a xs
def EpsAre (H:Heap):List ExP→List Qh→Prop
 | [],[]=>True
 | v::l,x::xs=>EpIs H v x∧EpsAre H l xs
 | [],_::_=>False
 | _::_,[]=>False
end
theorem EpsAre.iff {H:Heap}:∀ {l:List ExP} {xs:List Qh},EpsAre H l xs↔l.length=xs.length∧∀ (i:Nat) (v:ExP) (x:Qh),l[i]? = some v→xs[i]? = some x→EpIs H v x
 | [],[]=>by simp [EpsAre]
 | [],_::_=>by simp [EpsAre]
 | _::_,[]=>by simp [EpsAre]
 | v::l,x::xs=>by
  simp only [EpsAre,EpsAre.iff (l:=l) (xs:=xs),List.length_cons]
  constructor
  ·rintro ⟨h1,h2,h3⟩
   refine ⟨by omega,fun i v' x' hv hx=>?_⟩
   cases i with
   | zero=>simp at hv hx; subst hv; subst hx; exact h1
   | succ i=>exact h3 i v' x' (by simpa using hv) (by simpa using hx)
  ·rintro ⟨h1,h2⟩
   exact ⟨h2 0 v x rfl rfl,by omega,fun i v' x' hv hx=>h2 (i+1) v' x' (by simpa using hv) (by simpa using hx)⟩
abbrev EpL (A:Heap):=SlIs (EpIs A) Qh.c A
theorem Qhp {H:Heap} {v:ExP} {x:Qh}:EpIs H v x↔x.Pos=psP v.p∧x.Kind=v.k∧Nm x.Name v.n∧VIs H v.v x.Value_∧VB v.v∧EpL H x.Args v.a:=by
 obtain ⟨p,k,n,u,a⟩:=v
 simp only [EpIs,ExP.p,ExP.k,ExP.n,ExP.v,ExP.a,EpL,SlIs,EpsAre.iff]
 constructor
 ·rintro ⟨h0,h1,h2,h3,h4,xs,h5,h6,h7,h8,h9⟩; exact ⟨h0,h1,h2,h3,h4,xs,h5,h6,h8,h7,h9⟩
 ·rintro ⟨h0,h1,h2,h3,h4,xs,h5,h6,h8,h7,h9⟩; exact ⟨h0,h1,h2,h3,h4,xs,h5,h6,h7,h8,h9⟩
def LpIs (A:Heap) (v:LiP) (x:Qk):Prop:=x.Pos=psP v.p∧x.Kind=v.k∧Nm x.Rel v.r∧EpL A x.Args v.a
abbrev LpL (A:Heap):=SlIs (LpIs A) Qk.c A
def TpIs (A:Heap) (v:TdP) (x:Qb):Prop:=x.Pos=psP v.p∧x.Pub=v.b∧Nm x.Name v.n∧(StL A x.Params v.ps∧x.Params.len≤x.Params.cap)∧CnL A x.Cons v.cs
abbrev TpL (A:Heap):=SlIs (TpIs A) Qb.c A
def RpIs (A:Heap) (v:RdP) (x:Qg):Prop:=x.Pos=psP v.p∧x.Pub=v.b∧x.Input=v.i∧Nm x.Name v.n∧FdL A x.Fields v.f
abbrev RpL (A:Heap):=SlIs (RpIs A) Qg.c A
def UpIs (A:Heap) (v:RuP) (x:Qi):Prop:=x.Pos=psP v.p∧Nm x.Rel v.r∧EpL A x.Args v.a∧StL A x.Aggs v.g∧LpL A x.Body v.b
abbrev UpL (A:Heap):=SlIs (UpIs A) Qi.c A
def NpIs (A:Heap) (v:NeP) (x:Ql):Prop:=x.Pos=psP v.p∧Nm x.Name v.n∧LpL A x.Body v.b
abbrev NpL (A:Heap):=SlIs (NpIs A) Ql.c A
def IpIs (v:ImP) (x:Qn):Prop:=x.Pos=psP v.p∧Nm x.Name v.n
abbrev IpL (A:Heap):=SlIs IpIs Qn.c A
def MpIs (A:Heap) (v:MoP) (x:Qa):Prop:=Nm x.Name v.n∧(IpL A x.Imports v.im∧x.Imports.len≤x.Imports.cap)∧TpL A x.Types v.ty∧RpL A x.Rels v.re∧UpL A x.Rules v.ru∧NpL A x.Nevers v.ne
abbrev MpL (A:Heap):=SlIs (MpIs A) Qa.c A
section
variable {α α2 β:Type} {R:α→β→Prop} {R2:α2→β→Prop} {c:β→List Value} {A B:Heap} {s:Sl} {l:List α}
theorem SlIs.map (h:SlIs R c A s l) (f:α→α2) (hR:∀ v ∈ l,∀ x,R v x→R2 (f v) x):SlIs R2 c A s (l.map f):=by
 obtain ⟨xs,h1,h2,h3,h4,h5⟩:=h
 refine ⟨xs,h1,h2,by simpa using h3,by simpa using h4,fun i v x hv hx=>?_⟩
 rw [List.getElem?_map] at hv
 cases hl:l[i]? with
 | none=>rw [hl] at hv; cases hv
 | some w=>
  rw [hl] at hv
  injection hv with hv
  subst hv
  exact hR w (List.mem_of_getElem? hl) x (h5 i w x hl hx)
end
theorem EpIs.e {A:Heap}:∀ (v:ExP) (x:Qh),EpIs A v x→ExIs A v.e x:=by
 refine ExP.rec_ fun v ih x h=>?_
 rw [Qhp] at h
 rw [ExP.e_eq,Qle]
 exact ⟨h.2.1,h.2.2.1,h.2.2.2.1,h.2.2.2.2.1,h.2.2.2.2.2.map _ ih⟩
section
variable {A:Heap}
theorem EpL.e {s:Sl} {l:List ExP} (h:EpL A s l):ExL A s (l.map ExP.e):=h.map _ fun v _ x hx=>EpIs.e v x hx
theorem LpIs.e {v:LiP} {x} (h:LpIs A v x):LiIs A v.e x:=⟨h.2.1,h.2.2.1,EpL.e h.2.2.2⟩
theorem LpL.e {s:Sl} {l:List LiP} (h:LpL A s l):LiL A s (l.map LiP.e):=h.map _ fun v _ x hx=>LpIs.e hx
theorem TpIs.e {v:TdP} {x} (h:TpIs A v x):TdIs A v.e x:=⟨h.2.1,h.2.2.1,h.2.2.2.1.1,h.2.2.2.2⟩
theorem RpIs.e {v:RdP} {x} (h:RpIs A v x):RdIs A v.e x:=h.2
theorem UpIs.e {v:RuP} {x} (h:UpIs A v x):RuIs A v.e x:=⟨h.2.1,EpL.e h.2.2.1,h.2.2.2.1,LpL.e h.2.2.2.2⟩
theorem NpIs.e {v:NeP} {x} (h:NpIs A v x):NeIs A v.e x:=⟨h.2.1,LpL.e h.2.2⟩
theorem MpIs.e {v:MoP} {x} (h:MpIs A v x):MoIs A v.e x:=
 ⟨h.1,h.2.1.1.map _ fun _ _ _ hx=>hx.2,h.2.2.1.map _ fun _ _ _ hx=>TpIs.e hx,h.2.2.2.1.map _ fun _ _ _ hx=>RpIs.e hx,h.2.2.2.2.1.map _ fun _ _ _ hx=>UpIs.e hx,h.2.2.2.2.2.map _ fun _ _ _ hx=>NpIs.e hx⟩
end
theorem EpIs.le {A B:Heap} (hle:A.le B):∀ v:ExP,∀ x,EpIs A v x→EpIs B v x:=by
 refine ExP.rec_ fun v ih x h=>?_
 rw [Qhp] at h ⊢
 exact ⟨h.1,h.2.1,h.2.2.1,h.2.2.2.1.le hle,h.2.2.2.2.1,h.2.2.2.2.2.le hle ih⟩
section
variable {A B:Heap} (hle:A.le B)
include hle
theorem LpIs.le {v:LiP} {x} (h:LpIs A v x):LpIs B v x:=⟨h.1,h.2.1,h.2.2.1,h.2.2.2.le hle fun v _ x h=>EpIs.le hle v x h⟩
theorem TpIs.le {v:TdP} {x} (h:TpIs A v x):TpIs B v x:=⟨h.1,h.2.1,h.2.2.1,⟨StL.le hle h.2.2.2.1.1,h.2.2.2.1.2⟩,h.2.2.2.2.le hle fun _ _ _ h=>CnIs.le hle h⟩
theorem RpIs.le {v:RdP} {x} (h:RpIs A v x):RpIs B v x:=⟨h.1,h.2.1,h.2.2.1,h.2.2.2.1,h.2.2.2.2.le hle fun _ _ _ h=>FdIs.le hle h⟩
theorem UpIs.le {v:RuP} {x} (h:UpIs A v x):UpIs B v x:=⟨h.1,h.2.1,h.2.2.1.le hle fun v _ x h=>EpIs.le hle v x h,StL.le hle h.2.2.2.1,h.2.2.2.2.le hle fun _ _ _ h=>LpIs.le hle h⟩
theorem NpIs.le {v:NeP} {x} (h:NpIs A v x):NpIs B v x:=⟨h.1,h.2.1,h.2.2.le hle fun _ _ _ h=>LpIs.le hle h⟩
end
def Heap.nw (A H D : Heap) : Heap := fun b => match H b with
 | none=>D b
 | some _=>A b
section
variable {A H H1 D D2:Heap}
theorem QoS (hA:A.le H):A.le (Heap.nw A H D):=fun b e h=>by
 unfold Heap.nw
 rw [hA b e h]; exact h
theorem Qq4 (h:D.le D2):(Heap.nw A H D).le (Heap.nw A H D2):=fun b e hb=>by
 unfold Heap.nw at hb ⊢
 cases hh:H b with
 | none=>rw [hh] at hb; exact h b e hb
 | some e'=>rw [hh] at hb; exact hb
theorem Qq3 (hA:A.le H) (h:H.le H1):(Heap.nw A H1 D).le (Heap.nw A H D):=fun b e hb=>by
 unfold Heap.nw at hb ⊢
 cases h1:H1 b with
 | none=>rw [h1] at hb; rw [h.none h1]; exact hb
 | some e'=>
  rw [h1] at hb
  rw [hA b e hb]; exact hb
theorem QjY {b:Nat} {e:Bool×GO} (hb:H b=none) (h:D b=some e):Heap.nw A H D b=some e:=by
 unfold Heap.nw; rw [hb]; exact h
theorem Qhr {b:Nat} {e:Bool×GO} (h:Heap.nw A H D b=some e):(H b=none∧D b=some e)∨A b=some e:=by
 unfold Heap.nw at h
 cases hb:H b with
 | none=>rw [hb] at h; exact .inl ⟨rfl,h⟩
 | some e'=>rw [hb] at h; exact .inr h
end
structure Gr {α β:Type} (R:Heap→α→β→Prop) (c:β→List Value) (z:Nat) (A H D:Heap) (s:Sl) (l:List α):Prop where
 dom:∀ b,D b=none→H b=none
 al:A.le D
 fresh:Fresh H s
 ex:∃ xs:List β,Own D z s (xs.flatMap c)∧l.length=xs.length∧∀ (i:Nat) (v:α) (x:β),l[i]? = some v→xs[i]? = some x→R (Heap.off s (Heap.nw A H D)) v x
theorem QoZ {A H D:Heap} (hA:A.le D):(Heap.nw A H D).le D:=fun b e h=>by
 unfold Heap.nw at h
 cases hb:H b with
 | none=>rw [hb] at h; exact h
 | some e'=>rw [hb] at h; exact hA b e h
section
variable {α β:Type} {R:Heap→α→β→Prop} {c:β→List Value} {z:Nat} {A H H1 D D2:Heap} {s r:Sl} {l:List α} {v:α} {x:β}
theorem Gr.nil (hd:∀ b,D b=none→H b=none) (hA:A.le D):Gr R c z A H D Sl.nil ([]:List α):=⟨hd,hA,Fresh.nil _,[],Own.nil _ _,rfl,fun i v x h=>by simp at h⟩
theorem Gr.len (h:Gr R c z A H D s l) (hz:∀ x,(c x).length=z) (hz0:0 < z):s.len=l.length:=by
 obtain ⟨xs,h1,h2,h3⟩:=h.ex
 have:=h1.1
 have e:(xs.flatMap c).length=xs.length*z:=by
  clear h1 h2 h3 this
  induction xs with
  | nil=>simp
  | cons a xs ih=>simp only [List.flatMap_cons,List.length_append,ih,hz,List.length_cons,Nat.add_mul]; omega
 rw [e] at this
 have:=Nat.eq_of_mul_eq_mul_right hz0 this
 omega
/-- more memory, but for what is not asked -/
theorem Gr.up (h:Gr R c z A H D s l) (hle:D.le D2) (hR:∀ {X Y:Heap} {v x},X.le Y→R X v x→R Y v x):Gr R c z A H D2 s l:=by
 obtain ⟨xs,h1,h2,h3⟩:=h.ex
 refine ⟨fun b hb=>h.dom b (hle.none hb),h.al.trans hle,h.fresh,xs,h1.le hle,h2,fun i v x hv hx=>hR (fun b e hb=>?_) (h3 i v x hv hx)⟩
 unfold Heap.off at hb ⊢
 split at hb
 ·cases hb
 ·rename_i hn; rw [if_neg hn]; exact Qq4 hle b e hb
theorem Gr.has (h:Gr R c z A H D s l):∀ p,s.p=some p→∃ e,D p.1=some e:=fun p hp=>by
 obtain ⟨xs,h1,_⟩:=h.ex
 obtain ⟨g,hg⟩:=h1.mine hp
 exact ⟨_,hg⟩
/-- another block of H written -/
theorem Gr.put (h:Gr R c z A H D s l) {b:Nat} {g:GO} {e:Bool×GO} (hb:H b=some e) (hA:A b=none):Gr R c z A H (D.put b g) s l:=by
 have hs:∀ p,s.p=some p→p.1≠b:=fun p hp e'=>by
  have:=h.fresh p hp
  rw [e',hb] at this; cases this
 obtain ⟨xs,h1,h2,h3⟩:=h.ex
 have hbut:=Heap.but.put b D g true
 refine ⟨fun x hx=>?_,fun x e' hx=>?_,h.fresh,xs,h1.but hbut hs,h2,fun i v x hv hx=>?_⟩
 ·by_cases hxb:x=b
  ·subst hxb; rw [Heap.put_same] at hx; cases hx
  ·rw [Heap.put_ne _ _ _ hxb] at hx; exact h.dom x hx
 ·have : x ≠ b := fun e2 => by rw [e2, hA] at hx; cases hx
  rw [Heap.put_ne _ _ _ this]; exact h.al x e' hx
 ·have e2 : Heap.nw A H (D.put b g) = Heap.nw A H D := by
   funext x
   unfold Heap.nw
   cases hh:H x with
   | none=>
    have:x≠b:=fun e2=>by rw [e2,hb] at hh; cases hh
    exact Heap.put_ne _ _ _ this
   | some _=>rfl
  rw [e2]; exact h3 i v x hv hx
/-- an element more -/
theorem Gr.addD (h:Gr R c z A H D s l) (hA:A.le H) (hz:∀ x,(c x).length=z) (hz0:0 < z) (hR:∀ {X Y:Heap} {v x},X.le Y→R X v x→R Y v x) {zc:List Value} (hzc:zc.length=z) {bytes:Nat} {K:Sl→Heap→Prop}
 (hv:R (Heap.off s (Heap.nw A H D)) v x) (hb:(l.length+1)*bytes≤140737488355328) (hl:l.length+1≤140737488355328)
 (k:∀ r D2,Gr R c z A H D2 r (l++[v])→(Heap.off s D).le D2→Fresh (Heap.off s D) r→K r D2):apd zc bytes s (c x) 1 K D:=by
 obtain ⟨xs,g1,g2,g3⟩:=h.ex
 have hlen:=h.len hz hz0
 subst hzc
 refine Qll g1.off (by rw [hz,Nat.one_mul]) (by rw [hlen]; exact hb) (by rw [hlen]; omega) fun r D2 ho hr=>?_
 have hsA:∀ b e,A b=some e→∀ p,s.p=some p→p.1≠b:=fun b e hb p hp e'=>by
  have:=h.fresh p hp
  rw [e',hA b e hb] at this; cases this
 have hf:Fresh H r:=fun p hp=>by
  have h0:=ho.fresh p hp
  unfold Heap.off at h0
  split at h0
  ·rename_i he
   obtain ⟨q,hq,hqp⟩:=Option.map_eq_some_iff.1 he
   rw [← hqp]; exact h.fresh q hq
  ·exact h.dom _ h0
 refine k r D2 ⟨fun b hb=>?_,fun b e hb=>?_,hf,xs++[x],?_,by simp [g2],?_⟩ ho.le ho.fresh
 ·have h0:=ho.le.none hb
  unfold Heap.off at h0
  split at h0
  ·rename_i he
   obtain ⟨q,hq,hqp⟩:=Option.map_eq_some_iff.1 he
   rw [← hqp]; exact h.fresh q hq
  ·exact h.dom _ h0
 ·exact ho.le b e (Heap.off_some (h.al b e hb) (hsA b e hb))
 ·have e : (xs ++ [x]).flatMap c = xs.flatMap c ++ c x := by simp
  rw [e]; exact ho.own
 ·have key : (Heap.off s (Heap.nw A H D)).le (Heap.off r (Heap.nw A H D2)) := fun b e hb => by
   have hs:∀ p,s.p=some p→p.1≠b:=fun p hp e'=>by
    unfold Heap.off at hb
    rw [if_pos (by rw [hp,← e']; rfl)] at hb; cases hb
   have hb2:Heap.nw A H D b=some e:=Heap.off_le _ _ _ _ hb
   have hD:(Heap.off s D) b=some e:=Heap.off_some (QoZ h.al b e hb2) hs
   refine Heap.off_some ?_ fun p hp e'=>?_
   ·rcases Qhr hb2 with ⟨q1,_⟩ | q
    ·exact QjY q1 (ho.le b e hD)
    ·exact QoS hA b e q
   ·have:=ho.fresh p hp
    rw [e',hD] at this; cases this
  intro i v' x' hv' hx'
  by_cases hi:i < l.length
  ·rw [List.getElem?_append_left hi] at hv'
   rw [List.getElem?_append_left (by omega)] at hx'
   exact hR key (g3 i v' x' hv' hx')
  ·have hl1:=(List.getElem?_eq_some_iff.1 hv').1
   simp only [List.length_append,List.length_cons,List.length_nil] at hl1
   have:i=l.length:=by omega
   subst this
   rw [List.getElem?_append_right (Nat.le_refl _)] at hv'
   rw [List.getElem?_append_right (by omega)] at hx'
   simp at hv' 
   rw [show l.length - xs.length=0 by omega] at hx'
   simp at hx'
   subst hv'; subst hx'
   exact hR key hv
/-- what is told at the end -/
theorem Gr.is (h:Gr R c z A H D s l) (hz:∀ x,(c x).length=z) (hz0:0 < z) (hR:∀ {X Y:Heap} {v x},X.le Y→R X v x→R Y v x) (hb:l.length≤140737488355328):SlIs (R (Heap.nw A H D)) c (Heap.nw A H D) s l:=by
 obtain ⟨xs,h1,h2,h3⟩:=h.ex
 have hlen:=h.len hz hz0
 refine ⟨xs,?_,by omega,h2,hb,fun i v x hv hx=>hR (Heap.off_le _ _) (h3 i v x hv hx)⟩
 obtain ⟨hl,hx,hc,⟨hp,h0⟩ | ⟨b,sp,hp,hbk,_⟩⟩:=h1
 ·left
  have:s.len=0:=by omega
  rw [this] at hl
  exact List.length_eq_zero_iff.1 (by simpa using hl)
 ·refine .inr ⟨hx, _, hp, Qev (QjY (h.fresh _ hp) hbk) fun j v hj => ?_⟩
  have:=(List.getElem?_eq_some_iff.1 hj).1
  rw [Nat.zero_add,List.getElem?_append_left this]; exact hj
/-- what a call over D makes is in the rest -/
theorem Qmk (hA:A.le H) (hd:∀ b,D b=none→H b=none) (hf:Fresh H s) (hs:∀ p,s.p=some p→∃ e,D p.1=some e):(Heap.nw A D D2).le (Heap.off s (Heap.nw A H D2)):=fun b e hb=>by
 refine Heap.off_some ?_ fun p hp e'=>?_
 ·rcases Qhr hb with ⟨q,q2⟩ | q
  ·exact QjY (hd b q) q2
  ·exact QoS hA b e q
 ·obtain ⟨e2,h2⟩:=hs p hp
  rcases Qhr hb with ⟨q,_⟩ | q
  ·rw [← e',h2] at q; cases q
  ·have:=hf p hp
   rw [e',hA b e q] at this; cases this
/-- a literal of one, behind a list -/
theorem Gr.lit (h:Gr R c z A H D s l) (hA:A.le H) (hz:∀ x,(c x).length=z) (hz0:0 < z) (hR:∀ {X Y:Heap} {v x},X.le Y→R X v x→R Y v x) {zc:List Value} (hzc:zc.length=z) {bytes:Nat} {Hs:Heap} {K:Sl→Heap→Prop}
 (h1:∀ u ∈ c x,u.oneCell' = true) (hv:R (Heap.off s (Heap.nw A H D)) v x) (hb:(l.length+1)*bytes≤140737488355328) (hl:l.length+1≤140737488355328) (hs:Hs.le (Heap.off s D))
 (k:∀ r D2,Gr R c z A H D2 r (l++[v])→(Heap.off s D).le D2→Fresh (Heap.off s D) r→K r D2) :
 nw (c x++[]) (fun b H71=>Heap.le Hs H71∧apS zc bytes s (Sl.of (some (b,0)) 1 1) (fun r H74=>Heap.le Hs H74∧K r H74) H71) D:=by
 intro b n
 rw [List.append_nil]
 have l1:=Heap.le_put n (g:=.row (c x)) (m:=true)
 have hoff:(Heap.off s D).le (Heap.off s (D.put b (.row (c x)))):=fun y e hy=>by
  unfold Heap.off at hy ⊢
  split at hy
  ·cases hy
  ·rename_i hn; rw [if_neg hn]; exact l1 y e hy
 refine ⟨(hs.trans (Heap.off_le _ _)).trans l1,_,.inr ⟨rfl,(b,0),rfl,Qev (Heap.put_same ..) fun j u hj=>by rw [Nat.zero_add]; exact hj⟩,h1,?_⟩
 refine (h.up l1 hR).addD hA hz hz0 hR hzc (hR (fun y e hy=>?_) hv) hb hl fun r D2 hg h2 hf=>?_
 ·unfold Heap.off at hy ⊢
  split at hy
  ·cases hy
  ·rename_i hn; rw [if_neg hn]; exact Qq4 l1 y e hy
 ·refine ⟨(hs.trans hoff).trans h2, k r D2 hg (hoff.trans h2) fun p hp => ?_⟩
  exact hoff.none (hf p hp)
end
end
section
open Go Go.Proofs
theorem box1N {H:Heap} {cx:List Value} {K:Nat→Heap→Prop} (k:∀ b D,H b=none→D=H.put b (.row cx)→H.le D→D b=some (true,.row cx)→K b D):nw cx K H:=
 fun b n=>k b _ n rfl (Heap.le_put n) (Heap.put_same ..)
/-- a box whose cells are written at once -/
theorem boxZ {H:Heap} {cz cx:List Value} {K:Nat→Heap→Prop} (hl:cx.length=cz.length) (k:∀ b D,H b=none→H.le D→D b=some (true,.row cx)→K b D):nw cz (fun b H2=>stT (b,0) cx (fun H3=>K b H3) H2) H:=
 fun b n=>nwT hl (k b _ n (Heap.le_put n) (Heap.put_same ..))
theorem fPs {H:Heap} {b j:Nat} {m:Bool} {cs:List Value} {x:Qj} {K:Qj→Prop} (h:H b=some (m,.row cs)) (h0:cs[j]? = some (.int .i64 x.Line)) (h1:cs[j+1]? = some (.int .i64 x.Col)) (k:K x):ldT H Qj.c ((b,0).1,(b,0).2+j) K:=
 fT (c:=Qj.c) h (fun i v hv=>by match i,hv with | 0,hv=>(rw [← hv]; exact h0) | 1,hv=>(rw [← hv]; exact h1)) k
section
variable {C:Ctx} {H A:Heap}
/-- slices.IndexFunc: what is asked of each element, and what is so between -/
theorem ixI {α β:Type} {R:α→β→Prop} {c:β→List Value} {z:Nat} {s:Sl} {l:List α} {e:Value} {K:Int→Heap→Prop} (hz:∀ x,(c x).length=z) (hz0:0 < z) (hs:SlIs R c A s l) (I:Nat→Heap→Prop)
 (hA:∀ i D,I i D→A.le D) (h0:I 0 H)
 (hstep:∀ (i:Nat) (hi:i < l.length) (D:Heap) (x:β),I i D→R l[i] x→callU Tryz.prog C e [.agg (c x).toArray] D (fun v H13=>∃ r12:Bool,v=.bool r12∧ift r12 (K i H13) (I (i+1) H13)))
 (hend:∀ D,I l.length D→K (-1) D) :
 lp (α:=Int) 0 H (fun x1 J2 H3=>ift (decide ((x1:Int) < (Sl.len s:Int))) (ixa s x1 fun p5=>ldT H3 c (p5.1,p5.2+(x1:Int).toNat*z) fun x10=>callU Tryz.prog C e [.agg (c x10).toArray] H3 (fun v H13=>∃ (r12:Bool),v=.bool r12∧ift r12 (K x1 H13) (J2 (w .i64 (x1+1)) H13))) (K (-1) H3)):=by
 have hlen:=hs.len
 have hbd:=hs.bd
 refine ⟨fun y D=>∃ i:Nat,y=(i:Int)∧i≤l.length∧I i D,fun y _=>l.length - y.toNat,⟨0,rfl,Nat.zero_le _,h0⟩,?_⟩
 rintro _ D ⟨i,rfl,hi,hI⟩
 rw [hlen]
 refine ift.of (fun h=>?_) (fun h=>?_)
 ·have hlt : i < l.length := by have := of_decide_eq_true h; omega
  refine hs.ld (hA i D hI) hz hz0 rfl hlt fun x hx=>(hstep i hlt D x hI hx).mono ?_
  rintro v H' ⟨r,hv,hr⟩
  refine ⟨r,hv,ift.of (fun h=>hr.1 h) (fun h=>?_)⟩
  rw [Qbl (by omega) (by omega)]
  exact ⟨⟨i+1,by omega,by omega,hr.2 h⟩,by first | omega | (dsimp only; omega)⟩
 ·have hie : i = l.length := by have := of_decide_eq_false h; omega
  exact hend D (hie ▸ hI)
theorem anyTake {α:Type} {f:α→Bool} {l:List α} {i:Nat} (h:i < l.length):(l.take (i+1)).any f=((l.take i).any f || f l[i]):=by
 rw [List.take_add_one,List.getElem?_eq_getElem h,Option.toList_some,List.any_append]; simp
theorem anyYes {α:Type} {f:α→Bool} {l:List α} {i:Nat} (h:i < l.length) (hf:f l[i]=true):l.any f=true:=List.any_eq_true.2 ⟨_,List.getElem_mem h,hf⟩
/-- is one of them so? -/
theorem anyI {α β:Type} {R:α→β→Prop} {c:β→List Value} {z:Nat} {s:Sl} {l:List α} {e:Value} {K:Bool→Heap→Prop} {ok:α→Bool} (hz:∀ x,(c x).length=z) (hz0:0 < z) (hs:SlIs R c A s l) (hA:A.le H)
 (he:∀ v ∈ l,∀ (x:β) (D:Heap) (Φ:Bool→Heap→Prop),H.le D→R v x→(∀ D2,D.le D2→Φ (ok v) D2)→callU Tryz.prog C e [.agg (c x).toArray] D (fun v H13=>∃ r12:Bool,v=.bool r12∧Φ r12 H13))
 (k:∀ D,H.le D→K (l.any ok) D) :
 lp (α:=Int) 0 H (fun x1 J2 H3=>ift (decide ((x1:Int) < (Sl.len s:Int))) (ixa s x1 fun p5=>ldT H3 c (p5.1,p5.2+(x1:Int).toNat*z) fun x10=>callU Tryz.prog C e [.agg (c x10).toArray] H3 (fun v H13=>∃ (r12:Bool),v=.bool r12∧ift r12 (K (decide ((x1:Int) ≥ 0)) H13) (J2 (w .i64 (x1+1)) H13))) (K (decide ((-1:Int) ≥ 0)) H3)):=by
 refine ixI (K:=fun r D=>K (decide (r ≥ 0)) D) hz hz0 hs (fun i D=>H.le D∧(l.take i).any ok=false) (fun i D h=>hA.trans h.1) ⟨Heap.le.refl _,rfl⟩ ?_ ?_
 ·rintro i hi D x ⟨hD,hno⟩ hx
  refine he _ (List.getElem_mem hi) x D _ hD hx fun D2 hD2=>ift.of (fun h=>?_) (fun h=>?_)
  ·have:=k D2 (hD.trans hD2)
   rw [anyYes hi h] at this
   rw [show decide ((i:Int) ≥ 0)=true from decide_eq_true (by omega)]; exact this
  ·exact ⟨hD.trans hD2,by rw [anyTake hi,hno,h]; rfl⟩
 ·rintro D ⟨hD,hno⟩
  rw [List.take_length] at hno
  have:=k D hD
  rw [hno] at this; exact this
theorem cfImport {R:ImP→Qn→Prop} {s:Sl} {l:List ImP} {e:Value} {K:Bool→Heap→Prop} {ok:ImP→Bool} (hs:SlIs R Qn.c A s l) (hA:A.le H)
 (he:∀ v ∈ l,∀ (x:Qn) (D:Heap) (Φ:Bool→Heap→Prop),H.le D→R v x→(∀ D2,D.le D2→Φ (ok v) D2)→callU Tryz.prog C e [.agg (Qn.c x).toArray] D (fun v H13=>∃ r12:Bool,v=.bool r12∧Φ r12 H13))
 (k:∀ D,H.le D→K (l.any ok) D):Qp C s e K H:=by
 apply QN
 unfold Qz
 apply QX
 unfold QD
 exact anyI (fun _=>rfl) (by omega) hs hA he k
theorem cfConsDef {R:CnV→Qc→Prop} {s:Sl} {l:List CnV} {e:Value} {K:Bool→Heap→Prop} {ok:CnV→Bool} (hs:SlIs R Qc.c A s l) (hA:A.le H)
 (he:∀ v ∈ l,∀ (x:Qc) (D:Heap) (Φ:Bool→Heap→Prop),H.le D→R v x→(∀ D2,D.le D2→Φ (ok v) D2)→callU Tryz.prog C e [.agg (Qc.c x).toArray] D (fun v H13=>∃ r12:Bool,v=.bool r12∧Φ r12 H13))
 (k:∀ D,H.le D→K (l.any ok) D):Qx C s e K H:=by
 apply Qac
 unfold QK
 apply Qaq
 unfold QT
 exact anyI (fun _=>rfl) (by omega) hs hA he k
theorem cfFieldDef {R:FdV→Qf→Prop} {s:Sl} {l:List FdV} {e:Value} {K:Bool→Heap→Prop} {ok:FdV→Bool} (hs:SlIs R Qf.c A s l) (hA:A.le H)
 (he:∀ v ∈ l,∀ (x:Qf) (D:Heap) (Φ:Bool→Heap→Prop),H.le D→R v x→(∀ D2,D.le D2→Φ (ok v) D2)→callU Tryz.prog C e [.agg (Qf.c x).toArray] D (fun v H13=>∃ r12:Bool,v=.bool r12∧Φ r12 H13))
 (k:∀ D,H.le D→K (l.any ok) D):Qv C s e K H:=by
 apply Q9
 unfold QH
 apply Qag
 unfold QM
 exact anyI (fun _=>rfl) (by omega) hs hA he k
theorem cfType {R:TyV→Qd→Prop} {s:Sl} {l:List TyV} {e:Value} {K:Bool→Heap→Prop} {ok:TyV→Bool} (hs:SlIs R Qd.c A s l) (hA:A.le H)
 (he:∀ v ∈ l,∀ (x:Qd) (D:Heap) (Φ:Bool→Heap→Prop),H.le D→R v x→(∀ D2,D.le D2→Φ (ok v) D2)→callU Tryz.prog C e [.agg (Qd.c x).toArray] D (fun v H13=>∃ r12:Bool,v=.bool r12∧Φ r12 H13))
 (k:∀ D,H.le D→K (l.any ok) D):QG C s e K H:=by
 apply QaG
 unfold Q1
 apply QaU
 unfold Q8
 exact anyI (fun _=>rfl) (by omega) hs hA he k
/-- does a text stand among texts? -/
theorem contS {s:Sl} {l:List Str} {t:Str} {K:Bool→Heap→Prop} (hs:StL A s l) (hA:A.le H) (k:K (l.contains t) H):Qr C s t K H:=by
 apply Qr.gh
 apply QdB
 unfold Qbo
 apply QdW
 unfold QbV
 have hlen:=SlIs.len hs
 have hbd:=SlIs.bd hs
 refine ⟨fun y D=>H.le D∧∃ i:Nat,y=(i:Int)∧i≤l.length∧(l.take i).contains t=false,fun y _=>l.length - y.toNat,⟨Heap.le.refl _,0,rfl,Nat.zero_le _,by simp⟩,?_⟩
 rintro _ D ⟨hD,i,rfl,hi,hno⟩
 rw [hlen]
 refine ift.of (fun h=>?_) (fun h=>?_)
 ·have hlt : i < l.length := by have := of_decide_eq_true h; omega
  refine SlIs.at_ hs (hA.trans hD) (z:=1) (fun _=>rfl) (by omega) rfl hlt fun p y hy hr=>⟨y,hr 0 _ rfl,?_⟩
  rw [hy.1]
  refine ift.of (fun h=>?_) (fun h=>?_)
  ·have e : l.contains t = true := by rw [List.contains_iff_mem, eq_of_beq h]; exact List.getElem_mem hlt
   rw [e] at k
   dsimp only
   rw [show decide ((i:Int) ≥ 0)=true from decide_eq_true (by omega)]
   exact ⟨H,Gh.le hD,k⟩
  ·rw [Qbl (by omega) (by omega)]
   refine ⟨⟨hD,i+1,by omega,by omega,?_⟩,by first | omega | (dsimp only; omega)⟩
   rw [List.take_add_one,List.getElem?_eq_getElem hlt,Option.toList_some]
   cases hc:(l.take i++[l[i]]).contains t with
   | false=>rfl
   | true=>
    rw [List.contains_iff_mem] at hc
    rcases List.mem_append.1 hc with hc | hc
    ·rw [← List.contains_iff_mem,hno] at hc; cases hc
    ·simp at hc; rw [hc] at h; simp at h
 ·have hie : i = l.length := by have := of_decide_eq_false h; omega
  subst hie
  rw [List.take_length] at hno
  rw [hno] at k
  exact ⟨H,Gh.le hD,k⟩
/-- texts copied -/
theorem cloneS {s:Sl} {l:List Str} {K:Sl→Heap→Prop} (hs:StL A s l) (hA:A.le H) (hb:l.length≤1000000000) (k:∀ r D,H.le D→Gr (fun _ (v:Str) (x:Str)=>Nm x v) (fun x=>[sv x]) 1 A H D r l→K r D):QJ C s K H:=by
 obtain ⟨xs,h1,h2,h3,h4,h5⟩:=hs
 have e0:xs.flatMap (fun x:Str=>[sv x])=xs.map sv:=by
  clear h1 h2 h3 h4 h5
  induction xs with
  | nil=>rfl
  | cons a xs ih=>rw [List.flatMap_cons,ih]; rfl
 rw [e0] at h1
 apply QdV
 unfold QbU
 refine ift.of (fun h=>?_) (fun h=>?_)
 ·have hx : xs = [] := by
   rcases h1 with h1 | ⟨_,p,hp,_⟩
   ·simpa using h1
   ·unfold Sl.isNil at h
    rw [hp] at h; cases h
  have:l=[]:=List.length_eq_zero_iff.1 (by rw [h3,hx]; rfl)
  subst this
  exact k _ _ (Heap.le.refl _) (Gr.nil (fun _ h=>h) hA)
 ·intro b n
  have e:=Qoe (z:=1) n
  have hle:=Heap.le_put n (g:=.row []) (m:=true)
  refine Qpz (zc:=[sv []]) e (QiT (hA.trans hle) h1) (by simp [h2]) (QrU xs) ?_ ?_ fun r D ho hr=>?_
  ·simp only [Sl.of]; omega
  ·simp only [Sl.of]; omega
  ·refine k r D ho.le ⟨fun b hb => ho.le.none hb, hA.trans ho.le, ho.fresh, xs, ?_, h3, fun i v x hv hx => h5 i v x hv hx⟩
   rw [e0]; exact ho.own
end
end
end Sx
end
