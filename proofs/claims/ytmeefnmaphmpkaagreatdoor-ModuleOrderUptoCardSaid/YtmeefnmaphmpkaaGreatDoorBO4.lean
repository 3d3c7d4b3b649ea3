/-
  Texts of this family, one behind the other: Sh5, Sh, FmtI, CntJ, ValQ, ValU, ValP1, ValP2, ValP3, ValP4, ValP5, ValR, ValW, ShowQ, BldB, ShowP, TreeI, TreeV, TreeE, TreeT1.
-/
import Derived.Test.YtmeefnmaphmpkaaGreatDoorBO3
import Derived.Shelf.Strconv.Itoa4
import Derived.Shelf.Strings.Search3
import Derived.Shelf.Vars
import Derived.Lib.ItoaNum
import Derived.Lib.ItoaLen
noncomputable section
set_option linter.unusedVariables false
set_option linter.unusedSimpArgs false
set_option maxRecDepth 10000
namespace Sx
section
set_option maxRecDepth 100000
open Go Go.Proofs
def Qls (C:Ctx) (p_a:Qe) (p_b:Qe) (K:Bool→Heap→Prop) (H:Heap):Prop:=
 nw (Qe.c p_a) (fun b1 H2=>
 nw (Qe.c p_b) (fun b3 H4=>
 ldI H4 .u8 ((b1,0).1,(b1,0).2+0) fun x5=>
 ldI H4 .u8 ((b3,0).1,(b3,0).2+0) fun x7=>
 jn (α:=Bool) (fun b9 H17=>
 jn (α:=Bool) (fun b18 H26=>
 jn (α:=Bool) (fun b27 H37=>
 K b27 H37)
 (fun J28=>ift b18
 (ldL H26 ((b1,0).1,(b1,0).2+3) fun x31=>
 ldL H26 ((b3,0).1,(b3,0).2+3) fun x33=>
 QfU C x31 x33 (fun r35 H36=>
 J28 r35 H36) H26)
 (J28 false H26)))
 (fun J19=>ift b9
 (ldS H17 ((b1,0).1,(b1,0).2+2) fun x22=>
 ldS H17 ((b3,0).1,(b3,0).2+2) fun x24=>
 J19 (x22 == x24) H17)
 (J19 false H17)))
 (fun J10=>ift ((x5:Int) == x7)
 (ldI H4 .i64 ((b1,0).1,(b1,0).2+1) fun x13=>
 ldI H4 .i64 ((b3,0).1,(b3,0).2+1) fun x15=>
 J10 ((x13:Int) == x15) H4)
 (J10 false H4))) H2) H
theorem Qou (C p_a p_b K H) (h:Qls C p_a p_b K H):Qbm C p_a p_b K H:=by
 refine Ye Tryz.func185 rfl Tryz.ntmps185 [(0,.agg (Qe.c p_a).toArray),(1,.agg (Qe.c p_b).toArray)] (Zo (GL.box (v:=.agg (Qe.c p_a).toArray) (cs:=Qe.c p_a) h trivial rfl rfl rfl ?_))
 intro b1 H2 h
 refine GL.box (v:=.agg (Qe.c p_b).toArray) (cs:=Qe.c p_b) h trivial rfl rfl rfl ?_
 intro b3 H4 h
 refine Za (GL.nil (Zo (Zf (Yl h fun x5 h=>?_))))
 refine Zf (Yl h fun x7 h=>?_)
 refine Zi (.bool ((x5:Int) == x7)) (Zm ?_)
 obtain ⟨J10,h,hR11⟩:=h
 refine GL.cut (α:=Bool) 6 J10 (fun b9=>[(16,.bool b9),(2,pv (some (b1,0))),(3,pv (some (b3,0)))]) ?_ ?_
 rcases h.em with ⟨u12,h⟩ | ⟨u12,h⟩
 refine Zu u12 Yf ?_
 obtain ⟨x13,v14,h⟩:=h
 refine Zu u12 (Yo v14) (Zu u12 Yf ?_)
 obtain ⟨x15,v16,h⟩:=h
 refine Zu u12 (Yo v16) (Zu u12 (OV.ibin (v:=.bool ((x13:Int) == x15)) rfl rfl rfl) (Zt u12 ?_))
 exact Yj I3 ((x13:Int) == x15) h
 refine Zk u12 (Zk u12 (Zk u12 (Zk u12 (Zk u12 (Zn u12 ?_)))))
 exact Yj I3 false h
 intro b9 H17 h
 replace h:=hR11 b9 H17 h
 refine Zm ?_
 obtain ⟨J19,h,hR20⟩:=h
 refine GL.cut (α:=Bool) 6 J19 (fun b18=>[(23,.bool b18),(2,pv (some (b1,0))),(3,pv (some (b3,0)))]) ?_ ?_
 rcases h.em with ⟨u21,h⟩ | ⟨u21,h⟩
 refine Zu u21 Yf ?_
 obtain ⟨x22,v23,h⟩:=h
 refine Zu u21 (Yo v23) (Zu u21 Yf ?_)
 obtain ⟨x24,v25,h⟩:=h
 refine Zu u21 (Yo v25) (Zu u21 (OV.sbin (a:=x22) (b:=x24) (v:=.bool (x22 == x24)) rfl rfl rfl) (Zt u21 ?_))
 exact Yj I3 (x22 == x24) h
 refine Zk u21 (Zk u21 (Zk u21 (Zk u21 (Zk u21 (Zn u21 ?_)))))
 exact Yj I3 false h
 intro b18 H26 h
 replace h:=hR20 b18 H26 h
 refine Zm ?_
 obtain ⟨J28,h,hR29⟩:=h
 refine GL.cut (α:=Bool) 6 J28 (fun b27=>[(30,.bool b27)]) ?_ ?_
 rcases h.em with ⟨u30,h⟩ | ⟨u30,h⟩
 refine Zu u30 Yf ?_
 obtain ⟨x31,v32,h⟩:=h
 refine Zu u30 (Yo v32) (Zu u30 Yf ?_)
 obtain ⟨x33,v34,h⟩:=h
 refine Zu u30 (Yo v34) (GL.call h (Yt u30) rfl Qms (vs:=[slv x31,slv x33]) rfl ?_)
 rintro _ H36 ⟨r35,rfl,h⟩
 refine Zt u30 ?_
 exact Yj I3 r35 h
 refine Zk u30 (Zk u30 (Zk u30 (Zk u30 (Zk u30 (Zn u30 ?_)))))
 exact Yj I3 false h
 intro b27 H37 h
 replace h:=hR29 b27 H37 h
 refine Za (GL.nil ?_)
 exact Y1 I3 ⟨b27,rfl,h⟩
def QhW (C:Ctx) (p_t:Qd) (K:Int→Heap→Prop) (H:Heap):Prop:=
 nw (Qd.c p_t) (fun b1 H2=>
 ldL H2 ((b1,0).1,(b1,0).2+1) fun x3=>
 Q1 C x3 (.func (.func 186) (List.toArray []) (List.toArray []):Value) (fun r5 H6=>
 K (w .i64 (1+r5)) H6) H2) H
theorem QlN (C p_t K H) (h:QhW C p_t K H):Qbf C p_t K H:=by
 refine Ye Tryz.func186 rfl Tryz.ntmps186 [(0,.agg (Qd.c p_t).toArray)] (Zo (GL.box (v:=.agg (Qd.c p_t).toArray) (cs:=Qd.c p_t) h trivial rfl rfl rfl ?_))
 intro b1 H2 h
 refine Za (GL.nil (Zo (Zf (Yl h fun x3 h=>?_))))
 refine Zc h QhI ?_
 rintro _ H6 ⟨r5,rfl,h⟩
 refine Zi (.int .i64 (w .i64 (1+r5))) (Za (GL.nil ?_))
 exact Y1 I3 ⟨(w .i64 (1+r5)),rfl,h⟩
def QaM (C:Ctx) (p_s:Sl) (p_f:Value) (K:Int→Heap→Prop) (H:Heap):Prop:=
 lp (α:=Int) 0 H (fun x1 J2 H3=>
 ift (decide ((x1:Int) < (Sl.len p_s:Int)))
 (ixa p_s x1 fun p5=>
 ldT H3 Qc.c (p5.1,p5.2+(x1:Int).toNat*6) fun x10=>
 callU Tryz.prog C p_f [.agg (Qc.c x10).toArray] H3 (fun v H13=>∃ (r12:Bool),v=.bool r12∧
 ift r12
 (K x1 H13)
 (J2 (w .i64 (x1+1)) H13)))
 (K (-1) H3))
theorem Qb6 (C p_s p_f K H) (h:QaM C p_s p_f K H):QaT C p_s p_f K H:=by
 refine Ye Tryz.func188 rfl Tryz.ntmps188 [(0,slv p_s),(1,p_f)] (Zo (Za (GL.nil (GC.seq (Zo (Zm (Zq (Zm (GL.nil (GC.block (Yp h (fun x1=>[(8,.int .i64 x1),(0,slv p_s),(1,p_f),(7,.int .i64 (Sl.len p_s:Int))]) ?_)))))))))))
 intro x1 H3 J2 h
 refine Zo (Zi (.bool (decide ((x1:Int) < (Sl.len p_s:Int)))) (GL.nil (GC.seq (Yd h (fun u4 h=>?_) fun u4 h=>?_))))
 refine GC.skip (GC.seq (GC.block (Zo (Zm (Za (GL.nil (Zo (Zm (Zm (Zm (Yx h fun p5 h=>?_)))))))))))
 obtain ⟨x10,v11,h⟩:=h
 refine Zv (OV.loadT rfl rfl rfl v11) (GL.callU (xv:=p_f) (vs:=[.agg (Qc.c x10).toArray]) h trivial rfl rfl rfl ?_)
 rintro _ H13 ⟨r12,rfl,h⟩
 refine GL.nil (Yd h (fun u14 h=>?_) fun u14 h=>?_)
 refine Zo (Zm (Za (GL.nil ?_)))
 exact Y1 I3 ⟨x1,rfl,h⟩
 refine GC.skip_to I3 (GC.region (Zi (.int .i64 (w .i64 (x1+1))) (Zm ?_)))
 exact Yj I3 (w .i64 (x1+1)) h
 refine GC.exit_to I3 (Zo (Za (GL.nil ?_)))
 exact Y1 I3 ⟨(-1),rfl,h⟩
def Qbq (C:Ctx) (p_s:Sl) (p_f:Value) (K:Bool→Heap→Prop) (H:Heap):Prop:=
 QbJ C p_s p_f (fun r1 H2=>
 K (decide ((r1:Int) ≥ 0)) H2) H
theorem QdD (C p_s p_f K H) (h:Qbq C p_s p_f K H):Qbt C p_s p_f K H:=by
 refine Ye Tryz.func189 rfl Tryz.ntmps189 [(0,slv p_s),(1,p_f)] (Zo (Za (GL.nil (Zo (Zm (Zm (Zc h Qev ?_)))))))
 rintro _ H2 ⟨r1,rfl,h⟩
 refine Zi (.bool (decide ((r1:Int) ≥ 0))) (Za (GL.nil ?_))
 exact Y1 I3 ⟨(decide ((r1:Int) ≥ 0)),rfl,h⟩
def QfD (C:Ctx) (p_x:Str) (v0:Nat×Nat) (K:Bool→Heap→Prop) (H:Heap):Prop:=
 ldV H v0 fun x1=>
 callU Tryz.prog C x1 [sv p_x] H (fun v H4=>∃ (r3:Bool),v=.bool r3∧
 K (!r3) H4)
theorem Qj8 (C p_x v0 K H) (h:QfD C p_x v0 K H):QfW C p_x v0 K H:=by
 refine Ye Tryz.func190 rfl Tryz.ntmps190 [(0,sv p_x),(1,pv (some v0))] (Zo (Za (GL.nil (Zo (Yl h fun x1 h=>?_)))))
 refine Zm (GL.callU (xv:=x1) (vs:=[sv p_x]) h trivial rfl rfl rfl ?_)
 rintro _ H4 ⟨r3,rfl,h⟩
 refine Zv (OV.not rfl) (Za (GL.nil ?_))
 exact Y1 I3 ⟨(!r3),rfl,h⟩
def Qg7 (C:Ctx) (p_x:Qg) (v0:Nat×Nat) (K:Bool→Heap→Prop) (H:Heap):Prop:=
 nw (Qg.c p_x) (fun b1 H2=>
 ldV H2 v0 fun x3=>
 ldT H2 Qg.c (b1,0) fun x5=>
 callU Tryz.prog C x3 [.agg (Qg.c x5).toArray] H2 (fun v H8=>∃ (r7:Bool),v=.bool r7∧
 K (!r7) H8)) H
theorem QgL (C p_x v0 K H) (h:Qg7 C p_x v0 K H):Qhs C p_x v0 K H:=by
 refine Ye Tryz.func191 rfl Tryz.ntmps191 [(0,.agg (Qg.c p_x).toArray),(1,pv (some v0))] (Zo (GL.box (v:=.agg (Qg.c p_x).toArray) (cs:=Qg.c p_x) h trivial rfl rfl rfl ?_))
 intro b1 H2 h
 refine Za (GL.nil (Zo (Yl h fun x3 h=>?_)))
 obtain ⟨x5,hr6,h⟩:=h
 refine Zv (OV.loadT rfl rfl rfl hr6) (GL.callU (xv:=x3) (vs:=[.agg (Qg.c x5).toArray]) h trivial rfl rfl rfl ?_)
 rintro _ H8 ⟨r7,rfl,h⟩
 refine Zv (OV.not rfl) (Za (GL.nil ?_))
 exact Y1 I3 ⟨(!r7),rfl,h⟩
def QaY (C:Ctx) (p_s:Sl) (p_f:Value) (K:Int→Heap→Prop) (H:Heap):Prop:=
 lp (α:=Int) 0 H (fun x1 J2 H3=>
 ift (decide ((x1:Int) < (Sl.len p_s:Int)))
 (ixa p_s x1 fun p5=>
 ldT H3 Qh.c (p5.1,p5.2+(x1:Int).toNat*6) fun x10=>
 callU Tryz.prog C p_f [.agg (Qh.c x10).toArray] H3 (fun v H13=>∃ (r12:Bool),v=.bool r12∧
 ift r12
 (K x1 H13)
 (J2 (w .i64 (x1+1)) H13)))
 (K (-1) H3))
theorem QcF (C p_s p_f K H) (h:QaY C p_s p_f K H):Qa5 C p_s p_f K H:=by
 refine Ye Tryz.func192 rfl Tryz.ntmps192 [(0,slv p_s),(1,p_f)] (Zo (Za (GL.nil (GC.seq (Zo (Zm (Zq (Zm (GL.nil (GC.block (Yp h (fun x1=>[(8,.int .i64 x1),(0,slv p_s),(1,p_f),(7,.int .i64 (Sl.len p_s:Int))]) ?_)))))))))))
 intro x1 H3 J2 h
 refine Zo (Zi (.bool (decide ((x1:Int) < (Sl.len p_s:Int)))) (GL.nil (GC.seq (Yd h (fun u4 h=>?_) fun u4 h=>?_))))
 refine GC.skip (GC.seq (GC.block (Zo (Zm (Za (GL.nil (Zo (Zm (Zm (Zm (Yx h fun p5 h=>?_)))))))))))
 obtain ⟨x10,v11,h⟩:=h
 refine Zv (OV.loadT rfl rfl rfl v11) (GL.callU (xv:=p_f) (vs:=[.agg (Qh.c x10).toArray]) h trivial rfl rfl rfl ?_)
 rintro _ H13 ⟨r12,rfl,h⟩
 refine GL.nil (Yd h (fun u14 h=>?_) fun u14 h=>?_)
 refine Zo (Zm (Za (GL.nil ?_)))
 exact Y1 I3 ⟨x1,rfl,h⟩
 refine GC.skip_to I3 (GC.region (Zi (.int .i64 (w .i64 (x1+1))) (Zm ?_)))
 exact Yj I3 (w .i64 (x1+1)) h
 refine GC.exit_to I3 (Zo (Za (GL.nil ?_)))
 exact Y1 I3 ⟨(-1),rfl,h⟩
def Qgn (C:Ctx) (p_x:Qf) (v0:Nat×Nat) (K:Bool→Heap→Prop) (H:Heap):Prop:=
 nw (Qf.c p_x) (fun b1 H2=>
 ldV H2 v0 fun x3=>
 ldT H2 Qf.c (b1,0) fun x5=>
 callU Tryz.prog C x3 [.agg (Qf.c x5).toArray] H2 (fun v H8=>∃ (r7:Bool),v=.bool r7∧
 K (!r7) H8)) H
theorem Qge (C p_x v0 K H) (h:Qgn C p_x v0 K H):QgS C p_x v0 K H:=by
 refine Ye Tryz.func193 rfl Tryz.ntmps193 [(0,.agg (Qf.c p_x).toArray),(1,pv (some v0))] (Zo (GL.box (v:=.agg (Qf.c p_x).toArray) (cs:=Qf.c p_x) h trivial rfl rfl rfl ?_))
 intro b1 H2 h
 refine Za (GL.nil (Zo (Yl h fun x3 h=>?_)))
 obtain ⟨x5,hr6,h⟩:=h
 refine Zv (OV.loadT rfl rfl rfl hr6) (GL.callU (xv:=x3) (vs:=[.agg (Qf.c x5).toArray]) h trivial rfl rfl rfl ?_)
 rintro _ H8 ⟨r7,rfl,h⟩
 refine Zv (OV.not rfl) (Za (GL.nil ?_))
 exact Y1 I3 ⟨(!r7),rfl,h⟩
def QfC (C:Ctx) (p_l:Sl) (p_is:Value) (K:Bool→Heap→Prop) (H:Heap):Prop:=
 (Value.cells p_is = #[p_is])∧nw ([p_is]) (fun b1 H2=>
 QO C p_l (.func (.func 223) (List.toArray []) (List.toArray [pv (some (b1,0))]):Value) (fun r4 H5=>
 K (!r4) H5) H2) H
theorem Qj7 (C p_l p_is K H) (h:QfC C p_l p_is K H):QZ C p_l p_is K H:=by
 refine Ye Tryz.func194 rfl Tryz.ntmps194 [(0,slv p_l),(1,p_is)] (Zo ?_)
 obtain ⟨u3,h⟩:=h
 refine GL.box (v:=p_is) (cs:=[p_is]) h trivial rfl rfl u3 ?_
 intro b1 H2 h
 refine Za (GL.nil (Zo (Zm (Zv (OV.makeFunc (vs:=[]) (us:=[pv (some (b1,0))]) rfl rfl) (Zc h Qa6 ?_)))))
 rintro _ H5 ⟨r4,rfl,h⟩
 refine Zv (OV.not rfl) (Za (GL.nil ?_))
 exact Y1 I3 ⟨(!r4),rfl,h⟩
def Qbj (C:Ctx) (p_s:Sl) (p_f:Value) (K:Int→Heap→Prop) (H:Heap):Prop:=
 lp (α:=Int) 0 H (fun x1 J2 H3=>
 ift (decide ((x1:Int) < (Sl.len p_s:Int)))
 (ixa p_s x1 fun p5=>
 ldT H3 Qj.c (p5.1,p5.2+(x1:Int).toNat*6) fun x10=>
 callU Tryz.prog C p_f [.agg (Qj.c x10).toArray] H3 (fun v H13=>∃ (r12:Bool),v=.bool r12∧
 ift r12
 (K x1 H13)
 (J2 (w .i64 (x1+1)) H13)))
 (K (-1) H3))
theorem Qds (C p_s p_f K H) (h:Qbj C p_s p_f K H):Qbo C p_s p_f K H:=by
 refine Ye Tryz.func195 rfl Tryz.ntmps195 [(0,slv p_s),(1,p_f)] (Zo (Za (GL.nil (GC.seq (Zo (Zm (Zq (Zm (GL.nil (GC.block (Yp h (fun x1=>[(8,.int .i64 x1),(0,slv p_s),(1,p_f),(7,.int .i64 (Sl.len p_s:Int))]) ?_)))))))))))
 intro x1 H3 J2 h
 refine Zo (Zi (.bool (decide ((x1:Int) < (Sl.len p_s:Int)))) (GL.nil (GC.seq (Yd h (fun u4 h=>?_) fun u4 h=>?_))))
 refine GC.skip (GC.seq (GC.block (Zo (Zm (Za (GL.nil (Zo (Zm (Zm (Zm (Yx h fun p5 h=>?_)))))))))))
 obtain ⟨x10,v11,h⟩:=h
 refine Zv (OV.loadT rfl rfl rfl v11) (GL.callU (xv:=p_f) (vs:=[.agg (Qj.c x10).toArray]) h trivial rfl rfl rfl ?_)
 rintro _ H13 ⟨r12,rfl,h⟩
 refine GL.nil (Yd h (fun u14 h=>?_) fun u14 h=>?_)
 refine Zo (Zm (Za (GL.nil ?_)))
 exact Y1 I3 ⟨x1,rfl,h⟩
 refine GC.skip_to I3 (GC.region (Zi (.int .i64 (w .i64 (x1+1))) (Zm ?_)))
 exact Yj I3 (w .i64 (x1+1)) h
 refine GC.exit_to I3 (Zo (Za (GL.nil ?_)))
 exact Y1 I3 ⟨(-1),rfl,h⟩
def Qa7 (C:Ctx) (p_s:Sl) (p_f:Value) (K:Bool→Heap→Prop) (H:Heap):Prop:=
 Qbn C p_s p_f (fun r1 H2=>
 K (decide ((r1:Int) ≥ 0)) H2) H
theorem QcW (C p_s p_f K H) (h:Qa7 C p_s p_f K H):Qa9 C p_s p_f K H:=by
 refine Ye Tryz.func196 rfl Tryz.ntmps196 [(0,slv p_s),(1,p_f)] (Zo (Za (GL.nil (Zo (Zm (Zm (Zc h Qdy ?_)))))))
 rintro _ H2 ⟨r1,rfl,h⟩
 refine Zi (.bool (decide ((r1:Int) ≥ 0))) (Za (GL.nil ?_))
 exact Y1 I3 ⟨(decide ((r1:Int) ≥ 0)),rfl,h⟩
def Qi5 (C:Ctx) (p_x:Qb) (v0:Nat×Nat) (K:Bool→Heap→Prop) (H:Heap):Prop:=
 nw (Qb.c p_x) (fun b1 H2=>
 ldV H2 v0 fun x3=>
 ldT H2 Qb.c (b1,0) fun x5=>
 callU Tryz.prog C x3 [.agg (Qb.c x5).toArray] H2 (fun v H8=>∃ (r7:Bool),v=.bool r7∧
 K (!r7) H8)) H
theorem QiM (C p_x v0 K H) (h:Qi5 C p_x v0 K H):Qji C p_x v0 K H:=by
 refine Ye Tryz.func197 rfl Tryz.ntmps197 [(0,.agg (Qb.c p_x).toArray),(1,pv (some v0))] (Zo (GL.box (v:=.agg (Qb.c p_x).toArray) (cs:=Qb.c p_x) h trivial rfl rfl rfl ?_))
 intro b1 H2 h
 refine Za (GL.nil (Zo (Yl h fun x3 h=>?_)))
 obtain ⟨x5,hr6,h⟩:=h
 refine Zv (OV.loadT rfl rfl rfl hr6) (GL.callU (xv:=x3) (vs:=[.agg (Qb.c x5).toArray]) h trivial rfl rfl rfl ?_)
 rintro _ H8 ⟨r7,rfl,h⟩
 refine Zv (OV.not rfl) (Za (GL.nil ?_))
 exact Y1 I3 ⟨(!r7),rfl,h⟩
def Ql9 (C:Ctx) (p_e:Qb) (p_pattern:Bool) (K:Bool→Heap→Prop) (H:Heap):Prop:=
 nw (Qb.c p_e) (fun b1 H2=>
 nw ([.bool p_pattern]) (fun b3 H4=>
 ldL H4 ((b1,0).1,(b1,0).2+8) fun x5=>
 jn (α:=Bool) (fun x8 H9=>
 jn (α:=Bool) (fun b102 H110=>
 jn (α:=Bool) (fun b111 H119=>
 K b111 H119)
 (fun J112=>ift b102
 (ldL H110 ((b1,0).1,(b1,0).2+8) fun x115=>
 QH C x115 (.func (.func 228) (List.toArray []) (List.toArray [pv (some (b3,0))]):Value) (fun r117 H118=>
 J112 r117 H118) H110)
 (J112 false H110)))
 (fun J103=>ift x8
 (ldT H9 Qe.c ((b1,0).1,(b1,0).2+4) fun x106=>
 QdV C x106 (fun r108 H109=>
 J103 r108 H109) H9)
 (J103 false H9)))
 (fun J7=>ldI H4 .u8 ((b1,0).1,(b1,0).2+0) fun x11=>
 ift ((x11:Int) == 1)
 (ldI H4 .u8 (((b1,0).1,(b1,0).2+4).1,((b1,0).1,(b1,0).2+4).2+0) fun x14=>
 jn (α:=Bool) (fun b17 H25=>
 jn (α:=Bool) (fun b27 H33=>
 K b27 H33)
 (fun J28=>ift (b17 && (((Sl.len x5:Int):Int) == 0))
 (ldS H25 ((b1,0).1,(b1,0).2+3) fun x31=>
 J28 (x31 == ([]:Str)) H25)
 (J28 false H25)))
 (fun J18=>ift ((decide ((x14:Int) ≥ 1)) && (decide ((x14:Int)≤4)))
 (ldT H4 Qe.c ((b1,0).1,(b1,0).2+4) fun x21=>
 QbB C x21 (fun r23 H24=>
 J18 ((r23:Int) == 0) H24) H4)
 (J18 false H4)))
 (ift ((x11:Int) == 2)
 (ldS H4 ((b1,0).1,(b1,0).2+3) fun x35=>
 Qep C x35 (fun r37 H38=>
 J7 (r37 && (((Sl.len x5:Int):Int) == 0)) H38) H4)
 (ift ((x11:Int) == 3)
 (ldB H4 (b3,0) fun x41=>
 jn (α:=Bool) (fun b43 H49=>
 J7 (b43 && (((Sl.len x5:Int):Int) == 0)) H49)
 (fun J44=>ift x41
 (ldS H4 ((b1,0).1,(b1,0).2+3) fun x47=>
 J44 (x47 == ([]:Str)) H4)
 (J44 false H4)))
 (ift ((x11:Int) == 4)
 (ldS H4 ((b1,0).1,(b1,0).2+3) fun x52=>
 J7 (((x52 == ([]:Str)) && (((Sl.len x5:Int):Int) != 1)) && (decide (((Sl.len x5:Int):Int)≤16))) H4)
 (ift ((x11:Int) == 5)
 (ldS H4 ((b1,0).1,(b1,0).2+3) fun x57=>
 QeV C x57 (fun r59 H60=>
 J7 (r59 && (decide (((Sl.len x5:Int):Int)≤8))) H60) H4)
 (ift ((x11:Int) == 6)
 (dr H4 fun Hs63=>
 ldS Hs63 ((b1,0).1,(b1,0).2+3) fun x65=>
 Qjl C (fun r68 H69=>
 Heap.le Hs63 H69∧
 lkM sv (fun x:Int=>(.int .i64 x:Value)) 0 r68 x65 (fun x71 is72=>
 Heap.le Hs63 H69∧
 ldB H69 (b3,0) fun x74=>
 J7 (((!x74) && (decide ((x71:Int) > 0))) && ((x71:Int) == (Sl.len x5:Int))) H69) H69) H4)
 (ift ((x11:Int) == 7)
 (ldB H4 (b3,0) fun x79=>
 jn (α:=Bool) (fun b81 H89=>
 J7 (b81 && (((Sl.len x5:Int):Int) == 1)) H89)
 (fun J82=>ift (!x79)
 (ldS H4 ((b1,0).1,(b1,0).2+3) fun x85=>
 Qa0 C x85 (fun r87 H88=>
 J82 r87 H88) H4)
 (J82 false H4)))
 (ift ((x11:Int) == 8)
 (ldB H4 (b3,0) fun x92=>
 jn (α:=Bool) (fun b94 H100=>
 J7 (b94 && (((Sl.len x5:Int):Int) == 3)) H100)
 (fun J95=>ift (!x92)
 (ldS H4 ((b1,0).1,(b1,0).2+3) fun x98=>
 J95 (x98 == ([]:Str)) H4)
 (J95 false H4)))
 (J7 false H4)))))))))) H2) H
theorem Qpj (C p_e p_pattern K H) (h:Ql9 C p_e p_pattern K H):Qcd C p_e p_pattern K H:=by
 refine Ye Tryz.func198 rfl Tryz.ntmps198 [(0,.agg (Qb.c p_e).toArray),(1,.bool p_pattern)] (Zo (GL.box (v:=.agg (Qb.c p_e).toArray) (cs:=Qb.c p_e) h trivial rfl rfl rfl ?_))
 intro b1 H2 h
 refine GL.box (v:=.bool p_pattern) (cs:=[.bool p_pattern]) h trivial rfl rfl rfl ?_
 intro b3 H4 h
 refine Za (GL.nil (Zo (Zf (Yl h fun x5 h=>?_))))
 refine Zq (Za (GL.nil (Zo (Za (GL.nil ?_)))))
 obtain ⟨J7,h,hR10⟩:=h
 refine GC.join (α:=Bool) J7 (fun x8=>[(6,.bool x8),(2,pv (some (b1,0))),(3,pv (some (b3,0)))]) ?_ ?_
 refine Zo (Zf (Yl h fun x11 h=>?_))
 refine GL.nil (GC.block (Zo (Zi (.bool ((x11:Int) == 1)) (Za (GL.nil (Yd h (fun u13 h=>?_) fun u13 h=>?_))))))
 refine Zo (Zf (Zf (Yl h fun x14 h=>?_)))
 refine Za (GL.nil (Zo (Zm (Zi (.bool (decide ((x14:Int) ≥ 1))) (Zm (GL.cut0 3 [(24,.bool ((decide ((x14:Int) ≥ 1)) && (decide ((x14:Int)≤4)))),(2,pv (some (b1,0))),(5,.int .i64 (Sl.len x5:Int))] ?_ ?_))))))
 rcases Zb (decide ((x14:Int) ≥ 1)) with u16 | u16
 refine Zu u16 Ym (Zu u16 (OV.ibin (v:=.bool (decide ((x14:Int)≤4))) rfl rfl rfl) (Zt u16 ?_))
 exact GL.jump0 I3 () rfl ⟨(by rw [u16]; rfl),rfl,rfl,trivial⟩
 refine Zk u16 (Zk u16 (Zn u16 ?_))
 exact GL.jump0 I3 () rfl ⟨(by rw [u16]; rfl),rfl,rfl,trivial⟩
 refine Zm ?_
 obtain ⟨J18,h,hR19⟩:=h
 refine GL.cut (α:=Bool) 5 J18 (fun b17=>[(30,.bool b17),(2,pv (some (b1,0))),(5,.int .i64 (Sl.len x5:Int))]) ?_ ?_
 rcases h.em with ⟨u20,h⟩ | ⟨u20,h⟩
 refine Zu u20 Yf ?_
 obtain ⟨x21,v22,h⟩:=h
 refine Zu u20 (OV.loadT rfl rfl rfl v22) (GL.call h (Yt u20) rfl Qkp (vs:=[.agg (Qe.c x21).toArray]) rfl ?_)
 rintro _ H24 ⟨r23,rfl,h⟩
 refine Zu u20 (OV.ibin (v:=.bool ((r23:Int) == 0)) rfl rfl rfl) (Zt u20 ?_)
 exact Yj I3 ((r23:Int) == 0) h
 refine Zk u20 (Zk u20 (Zk u20 (Zk u20 (Zn u20 ?_))))
 exact Yj I3 false h
 intro b17 H25 h
 replace h:=hR19 b17 H25 h
 refine Zm (GL.cut0 3 [(34,.bool (b17 && (((Sl.len x5:Int):Int) == 0))),(2,pv (some (b1,0)))] ?_ ?_)
 rcases Bool.eq_false_or_eq_true b17 with u26 | u26
 refine Zu u26 Ym (Zu u26 (OV.ibin (v:=.bool (((Sl.len x5:Int):Int) == 0)) rfl rfl rfl) (Zt u26 ?_))
 exact GL.jump0 I3 () rfl ⟨(by rw [u26]; rfl),rfl,trivial⟩
 refine Zk u26 (Zk u26 (Zn u26 ?_))
 exact GL.jump0 I3 () rfl ⟨(by rw [u26]; rfl),rfl,trivial⟩
 refine Zm ?_
 obtain ⟨J28,h,hR29⟩:=h
 refine GL.cut (α:=Bool) 4 J28 (fun b27=>[(39,.bool b27)]) ?_ ?_
 rcases h.em with ⟨u30,h⟩ | ⟨u30,h⟩
 refine Zu u30 Yf ?_
 obtain ⟨x31,v32,h⟩:=h
 refine Zu u30 (Yo v32) (Zu u30 (OV.sbin (a:=x31) (b:=([]:Str)) (v:=.bool (x31 == ([]:Str))) rfl rfl rfl) (Zt u30 ?_))
 exact Yj I3 (x31 == ([]:Str)) h
 refine Zk u30 (Zk u30 (Zk u30 (Zn u30 ?_)))
 exact Yj I3 false h
 intro b27 H33 h
 replace h:=hR29 b27 H33 h
 refine Za (GL.nil ?_)
 exact Y1 I3 ⟨b27,rfl,h⟩
 refine Zo (Zi (.bool ((x11:Int) == 2)) (Za (GL.nil (Yd h (fun u34 h=>?_) fun u34 h=>?_))))
 refine GC.region (Zf (Yl h fun x35 h=>?_))
 refine Zc h Qiz ?_
 rintro _ H38 ⟨r37,rfl,h⟩
 refine Zm (GL.cut0 3 [(48,.bool (r37 && (((Sl.len x5:Int):Int) == 0))),(2,pv (some (b1,0))),(3,pv (some (b3,0)))] ?_ ?_)
 rcases Bool.eq_false_or_eq_true r37 with u39 | u39
 refine Zu u39 Ym (Zu u39 (OV.ibin (v:=.bool (((Sl.len x5:Int):Int) == 0)) rfl rfl rfl) (Zt u39 ?_))
 exact GL.jump0 I3 () rfl ⟨(by rw [u39]; rfl),rfl,rfl,trivial⟩
 refine Zk u39 (Zk u39 (Zn u39 ?_))
 exact GL.jump0 I3 () rfl ⟨(by rw [u39]; rfl),rfl,rfl,trivial⟩
 refine Za ?_
 exact Yj I3 (r37 && (((Sl.len x5:Int):Int) == 0)) h
 refine Zo (Zi (.bool ((x11:Int) == 3)) (Za (GL.nil (Yd h (fun u40 h=>?_) fun u40 h=>?_))))
 refine GC.region (Yl h fun x41 h=>?_)
 refine Zm ?_
 obtain ⟨J44,h,hR45⟩:=h
 refine GL.cut (α:=Bool) 4 J44 (fun b43=>[(56,.bool b43),(2,pv (some (b1,0))),(3,pv (some (b3,0))),(5,.int .i64 (Sl.len x5:Int))]) ?_ ?_
 rcases h.em with ⟨u46,h⟩ | ⟨u46,h⟩
 refine Zu u46 Yf ?_
 obtain ⟨x47,v48,h⟩:=h
 refine Zu u46 (Yo v48) (Zu u46 (OV.sbin (a:=x47) (b:=([]:Str)) (v:=.bool (x47 == ([]:Str))) rfl rfl rfl) (Zt u46 ?_))
 exact Yj I3 (x47 == ([]:Str)) h
 refine Zk u46 (Zk u46 (Zk u46 (Zn u46 ?_)))
 exact Yj I3 false h
 intro b43 H49 h
 replace h:=hR45 b43 H49 h
 refine Zm (GL.cut0 3 [(60,.bool (b43 && (((Sl.len x5:Int):Int) == 0))),(2,pv (some (b1,0))),(3,pv (some (b3,0)))] ?_ ?_)
 rcases Bool.eq_false_or_eq_true b43 with u50 | u50
 refine Zu u50 Ym (Zu u50 (OV.ibin (v:=.bool (((Sl.len x5:Int):Int) == 0)) rfl rfl rfl) (Zt u50 ?_))
 exact GL.jump0 I3 () rfl ⟨(by rw [u50]; rfl),rfl,rfl,trivial⟩
 refine Zk u50 (Zk u50 (Zn u50 ?_))
 exact GL.jump0 I3 () rfl ⟨(by rw [u50]; rfl),rfl,rfl,trivial⟩
 refine Za ?_
 exact Yj I3 (b43 && (((Sl.len x5:Int):Int) == 0)) h
 refine Zo (Zi (.bool ((x11:Int) == 4)) (Za (GL.nil (Yd h (fun u51 h=>?_) fun u51 h=>?_))))
 refine GC.region (Zf (Yl h fun x52 h=>?_))
 refine Zv (OV.sbin (a:=x52) (b:=([]:Str)) (v:=.bool (x52 == ([]:Str))) rfl rfl rfl) (Zm (GL.cut0 3 [(69,.bool ((x52 == ([]:Str)) && (((Sl.len x5:Int):Int) != 1))),(2,pv (some (b1,0))),(3,pv (some (b3,0))),(5,.int .i64 (Sl.len x5:Int))] ?_ ?_))
 rcases Zb (x52 == ([]:Str)) with u54 | u54
 refine Zu u54 Ym (Zu u54 (OV.ibin (v:=.bool (((Sl.len x5:Int):Int) != 1)) rfl rfl rfl) (Zt u54 ?_))
 exact GL.jump0 I3 () rfl ⟨(by rw [u54]; rfl),rfl,rfl,rfl,trivial⟩
 refine Zk u54 (Zk u54 (Zn u54 ?_))
 exact GL.jump0 I3 () rfl ⟨(by rw [u54]; rfl),rfl,rfl,rfl,trivial⟩
 refine Zm (GL.cut0 3 [(73,.bool (((x52 == ([]:Str)) && (((Sl.len x5:Int):Int) != 1)) && (decide (((Sl.len x5:Int):Int)≤16)))),(2,pv (some (b1,0))),(3,pv (some (b3,0)))] ?_ ?_)
 rcases Zb ((x52 == ([]:Str)) && (((Sl.len x5:Int):Int) != 1)) with u55 | u55
 refine Zu u55 Ym (Zu u55 (OV.ibin (v:=.bool (decide (((Sl.len x5:Int):Int)≤16))) rfl rfl rfl) (Zt u55 ?_))
 exact GL.jump0 I3 () rfl ⟨(by rw [u55]; rfl),rfl,rfl,trivial⟩
 refine Zk u55 (Zk u55 (Zn u55 ?_))
 exact GL.jump0 I3 () rfl ⟨(by rw [u55]; rfl),rfl,rfl,trivial⟩
 refine Za ?_
 exact Yj I3 (((x52 == ([]:Str)) && (((Sl.len x5:Int):Int) != 1)) && (decide (((Sl.len x5:Int):Int)≤16))) h
 refine Zo (Zi (.bool ((x11:Int) == 5)) (Za (GL.nil (Yd h (fun u56 h=>?_) fun u56 h=>?_))))
 refine GC.region (Zf (Yl h fun x57 h=>?_))
 refine Zc h Qgt ?_
 rintro _ H60 ⟨r59,rfl,h⟩
 refine Zm (GL.cut0 3 [(82,.bool (r59 && (decide (((Sl.len x5:Int):Int)≤8)))),(2,pv (some (b1,0))),(3,pv (some (b3,0)))] ?_ ?_)
 rcases Bool.eq_false_or_eq_true r59 with u61 | u61
 refine Zu u61 Ym (Zu u61 (OV.ibin (v:=.bool (decide (((Sl.len x5:Int):Int)≤8))) rfl rfl rfl) (Zt u61 ?_))
 exact GL.jump0 I3 () rfl ⟨(by rw [u61]; rfl),rfl,rfl,trivial⟩
 refine Zk u61 (Zk u61 (Zn u61 ?_))
 exact GL.jump0 I3 () rfl ⟨(by rw [u61]; rfl),rfl,rfl,trivial⟩
 refine Za ?_
 exact Yj I3 (r59 && (decide (((Sl.len x5:Int):Int)≤8))) h
 refine Zo (Zi (.bool ((x11:Int) == 6)) (Za (GL.nil (Yd h (fun u62 h=>?_) fun u62 h=>?_))))
 refine GC.seq ?_
 obtain ⟨Hs63,hle64,h⟩:=h
 refine GC.any (Hs:=Hs63) (by kernel_rfl) hle64 (Zp 1 rfl Yf ?_)
 obtain ⟨x65,v66,h⟩:=h
 refine Zp 2 rfl (Yo v66) (GA.eff 0 rfl (by kernel_rfl) (Zc h Qo8 ?_))
 rintro _ H69 ⟨r68,rfl,h⟩
 obtain ⟨hle67,h⟩:=h
 refine GA.back hle67 (GA.eff 3 rfl (by kernel_rfl) ?_)
 obtain ⟨x71,is72,v73,h⟩:=h
 refine Zv (OV.lookup1 (v:=.int .i64 x71) (ke:=sv) (enc:=(fun x:Int=>(.int .i64 x:Value))) (z:=0) (q:=r68) (k:=x65) (x:=x71) (b:=is72) rfl v73 rfl rfl rfl (kText rfl) rfl) ?_
 obtain ⟨hle70,h⟩:=h
 refine GA.back hle70 (Zp 4 rfl Ya (GA.done (by kernel_rfl) (GL.nil (GC.region (Yl h fun x74 h=>?_)))))
 refine Zv (OV.not rfl) (Zm (GL.cut0 3 [(94,.bool ((!x74) && (decide ((x71:Int) > 0)))),(2,pv (some (b1,0))),(3,pv (some (b3,0))),(5,.int .i64 (Sl.len x5:Int)),(8,.int .i64 x71)] ?_ ?_))
 rcases Zb (!x74) with u76 | u76
 refine Zu u76 Ym (Zu u76 (OV.ibin (v:=.bool (decide ((x71:Int) > 0))) rfl rfl rfl) (Zt u76 ?_))
 exact GL.jump0 I3 () rfl ⟨(by rw [u76]; rfl),rfl,rfl,rfl,rfl,trivial⟩
 refine Zk u76 (Zk u76 (Zn u76 ?_))
 exact GL.jump0 I3 () rfl ⟨(by rw [u76]; rfl),rfl,rfl,rfl,rfl,trivial⟩
 refine Zm (GL.cut0 4 [(99,.bool (((!x74) && (decide ((x71:Int) > 0))) && ((x71:Int) == (Sl.len x5:Int)))),(2,pv (some (b1,0))),(3,pv (some (b3,0)))] ?_ ?_)
 rcases Zb ((!x74) && (decide ((x71:Int) > 0))) with u77 | u77
 refine Zu u77 Ym (Zu u77 Ym (Zu u77 (OV.ibin (v:=.bool ((x71:Int) == (Sl.len x5:Int))) rfl rfl rfl) (Zt u77 ?_)))
 exact GL.jump0 I3 () rfl ⟨(by rw [u77]; rfl),rfl,rfl,trivial⟩
 refine Zk u77 (Zk u77 (Zk u77 (Zn u77 ?_)))
 exact GL.jump0 I3 () rfl ⟨(by rw [u77]; rfl),rfl,rfl,trivial⟩
 refine Za ?_
 exact Yj I3 (((!x74) && (decide ((x71:Int) > 0))) && ((x71:Int) == (Sl.len x5:Int))) h
 refine Zo (Zi (.bool ((x11:Int) == 7)) (Za (GL.nil (Yd h (fun u78 h=>?_) fun u78 h=>?_))))
 refine GC.region (Yl h fun x79 h=>?_)
 refine Zv (OV.not rfl) (Zm ?_)
 obtain ⟨J82,h,hR83⟩:=h
 refine GL.cut (α:=Bool) 4 J82 (fun b81=>[(108,.bool b81),(2,pv (some (b1,0))),(3,pv (some (b3,0))),(5,.int .i64 (Sl.len x5:Int))]) ?_ ?_
 rcases h.em with ⟨u84,h⟩ | ⟨u84,h⟩
 refine Zu u84 Yf ?_
 obtain ⟨x85,v86,h⟩:=h
 refine Zu u84 (Yo v86) (GL.call h (Yt u84) rfl Qbb (vs:=[sv x85]) rfl ?_)
 rintro _ H88 ⟨r87,rfl,h⟩
 refine Zt u84 ?_
 exact Yj I3 r87 h
 refine Zk u84 (Zk u84 (Zk u84 (Zn u84 ?_)))
 exact Yj I3 false h
 intro b81 H89 h
 replace h:=hR83 b81 H89 h
 refine Zm (GL.cut0 3 [(112,.bool (b81 && (((Sl.len x5:Int):Int) == 1))),(2,pv (some (b1,0))),(3,pv (some (b3,0)))] ?_ ?_)
 rcases Bool.eq_false_or_eq_true b81 with u90 | u90
 refine Zu u90 Ym (Zu u90 (OV.ibin (v:=.bool (((Sl.len x5:Int):Int) == 1)) rfl rfl rfl) (Zt u90 ?_))
 exact GL.jump0 I3 () rfl ⟨(by rw [u90]; rfl),rfl,rfl,trivial⟩
 refine Zk u90 (Zk u90 (Zn u90 ?_))
 exact GL.jump0 I3 () rfl ⟨(by rw [u90]; rfl),rfl,rfl,trivial⟩
 refine Za ?_
 exact Yj I3 (b81 && (((Sl.len x5:Int):Int) == 1)) h
 refine Zo (Zi (.bool ((x11:Int) == 8)) (Za (GL.nil (Yd h (fun u91 h=>?_) fun u91 h=>?_))))
 refine GC.region (Yl h fun x92 h=>?_)
 refine Zv (OV.not rfl) (Zm ?_)
 obtain ⟨J95,h,hR96⟩:=h
 refine GL.cut (α:=Bool) 4 J95 (fun b94=>[(121,.bool b94),(2,pv (some (b1,0))),(3,pv (some (b3,0))),(5,.int .i64 (Sl.len x5:Int))]) ?_ ?_
 rcases h.em with ⟨u97,h⟩ | ⟨u97,h⟩
 refine Zu u97 Yf ?_
 obtain ⟨x98,v99,h⟩:=h
 refine Zu u97 (Yo v99) (Zu u97 (OV.sbin (a:=x98) (b:=([]:Str)) (v:=.bool (x98 == ([]:Str))) rfl rfl rfl) (Zt u97 ?_))
 exact Yj I3 (x98 == ([]:Str)) h
 refine Zk u97 (Zk u97 (Zk u97 (Zn u97 ?_)))
 exact Yj I3 false h
 intro b94 H100 h
 replace h:=hR96 b94 H100 h
 refine Zm (GL.cut0 3 [(125,.bool (b94 && (((Sl.len x5:Int):Int) == 3))),(2,pv (some (b1,0))),(3,pv (some (b3,0)))] ?_ ?_)
 rcases Bool.eq_false_or_eq_true b94 with u101 | u101
 refine Zu u101 Ym (Zu u101 (OV.ibin (v:=.bool (((Sl.len x5:Int):Int) == 3)) rfl rfl rfl) (Zt u101 ?_))
 exact GL.jump0 I3 () rfl ⟨(by rw [u101]; rfl),rfl,rfl,trivial⟩
 refine Zk u101 (Zk u101 (Zn u101 ?_))
 exact GL.jump0 I3 () rfl ⟨(by rw [u101]; rfl),rfl,rfl,trivial⟩
 refine Za ?_
 exact Yj I3 (b94 && (((Sl.len x5:Int):Int) == 3)) h
 exact Yk I3 false h
 intro x8 H9 h
 replace h:=hR10 x8 H9 h
 refine Zo (Zm (Zm ?_))
 obtain ⟨J103,h,hR104⟩:=h
 refine GL.cut (α:=Bool) 4 J103 (fun b102=>[(131,.bool b102),(2,pv (some (b1,0))),(3,pv (some (b3,0)))]) ?_ ?_
 rcases h.em with ⟨u105,h⟩ | ⟨u105,h⟩
 refine Zu u105 Yf ?_
 obtain ⟨x106,v107,h⟩:=h
 refine Zu u105 (OV.loadT rfl rfl rfl v107) (GL.call h (Yt u105) rfl QpH (vs:=[.agg (Qe.c x106).toArray]) rfl ?_)
 rintro _ H109 ⟨r108,rfl,h⟩
 refine Zt u105 ?_
 exact Yj I3 r108 h
 refine Zk u105 (Zk u105 (Zk u105 (Zn u105 ?_)))
 exact Yj I3 false h
 intro b102 H110 h
 replace h:=hR104 b102 H110 h
 refine Zm ?_
 obtain ⟨J112,h,hR113⟩:=h
 refine GL.cut (α:=Bool) 5 J112 (fun b111=>[(137,.bool b111)]) ?_ ?_
 rcases h.em with ⟨u114,h⟩ | ⟨u114,h⟩
 refine Zu u114 Yf ?_
 obtain ⟨x115,v116,h⟩:=h
 refine Zu u114 (Yo v116) (Zu u114 (OV.makeFunc (vs:=[]) (us:=[pv (some (b3,0))]) rfl rfl) (GL.call h (Yt u114) rfl QdB (vs:=[slv x115,.func (.func 228) (List.toArray []) (List.toArray [pv (some (b3,0))])]) rfl ?_))
 rintro _ H118 ⟨r117,rfl,h⟩
 refine Zt u114 ?_
 exact Yj I3 r117 h
 refine Zk u114 (Zk u114 (Zk u114 (Zk u114 (Zn u114 ?_))))
 exact Yj I3 false h
 intro b111 H119 h
 replace h:=hR113 b111 H119 h
 refine Za (GL.nil ?_)
 exact Y1 I3 ⟨b111,rfl,h⟩
def Qbc (C:Ctx) (p_s:Sl) (p_f:Value) (K:Int→Heap→Prop) (H:Heap):Prop:=
 lp (α:=Int) 0 H (fun x1 J2 H3=>
 ift (decide ((x1:Int) < (Sl.len p_s:Int)))
 (ixa p_s x1 fun p5=>
 ldT H3 Qm.c (p5.1,p5.2+(x1:Int).toNat*4) fun x10=>
 callU Tryz.prog C p_f [.agg (Qm.c x10).toArray] H3 (fun v H13=>∃ (r12:Bool),v=.bool r12∧
 ift r12
 (K x1 H13)
 (J2 (w .i64 (x1+1)) H13)))
 (K (-1) H3))
theorem Qc1 (C p_s p_f K H) (h:Qbc C p_s p_f K H):Qbd C p_s p_f K H:=by
 refine Ye Tryz.func199 rfl Tryz.ntmps199 [(0,slv p_s),(1,p_f)] (Zo (Za (GL.nil (GC.seq (Zo (Zm (Zq (Zm (GL.nil (GC.block (Yp h (fun x1=>[(8,.int .i64 x1),(0,slv p_s),(1,p_f),(7,.int .i64 (Sl.len p_s:Int))]) ?_)))))))))))
 intro x1 H3 J2 h
 refine Zo (Zi (.bool (decide ((x1:Int) < (Sl.len p_s:Int)))) (GL.nil (GC.seq (Yd h (fun u4 h=>?_) fun u4 h=>?_))))
 refine GC.skip (GC.seq (GC.block (Zo (Zm (Za (GL.nil (Zo (Zm (Zm (Zm (Yx h fun p5 h=>?_)))))))))))
 obtain ⟨x10,v11,h⟩:=h
 refine Zv (OV.loadT rfl rfl rfl v11) (GL.callU (xv:=p_f) (vs:=[.agg (Qm.c x10).toArray]) h trivial rfl rfl rfl ?_)
 rintro _ H13 ⟨r12,rfl,h⟩
 refine GL.nil (Yd h (fun u14 h=>?_) fun u14 h=>?_)
 refine Zo (Zm (Za (GL.nil ?_)))
 exact Y1 I3 ⟨x1,rfl,h⟩
 refine GC.skip_to I3 (GC.region (Zi (.int .i64 (w .i64 (x1+1))) (Zm ?_)))
 exact Yj I3 (w .i64 (x1+1)) h
 refine GC.exit_to I3 (Zo (Za (GL.nil ?_)))
 exact Y1 I3 ⟨(-1),rfl,h⟩
def QaL (C:Ctx) (p_s:Sl) (p_f:Value) (K:Int→Heap→Prop) (H:Heap):Prop:=
 lp (α:=Int) 0 H (fun x1 J2 H3=>
 ift (decide ((x1:Int) < (Sl.len p_s:Int)))
 (ixa p_s x1 fun p5=>
 ldT H3 Qk.c (p5.1,p5.2+(x1:Int).toNat*5) fun x10=>
 callU Tryz.prog C p_f [.agg (Qk.c x10).toArray] H3 (fun v H13=>∃ (r12:Bool),v=.bool r12∧
 ift r12
 (K x1 H13)
 (J2 (w .i64 (x1+1)) H13)))
 (K (-1) H3))
theorem Qb5 (C p_s p_f K H) (h:QaL C p_s p_f K H):QaS C p_s p_f K H:=by
 refine Ye Tryz.func200 rfl Tryz.ntmps200 [(0,slv p_s),(1,p_f)] (Zo (Za (GL.nil (GC.seq (Zo (Zm (Zq (Zm (GL.nil (GC.block (Yp h (fun x1=>[(8,.int .i64 x1),(0,slv p_s),(1,p_f),(7,.int .i64 (Sl.len p_s:Int))]) ?_)))))))))))
 intro x1 H3 J2 h
 refine Zo (Zi (.bool (decide ((x1:Int) < (Sl.len p_s:Int)))) (GL.nil (GC.seq (Yd h (fun u4 h=>?_) fun u4 h=>?_))))
 refine GC.skip (GC.seq (GC.block (Zo (Zm (Za (GL.nil (Zo (Zm (Zm (Zm (Yx h fun p5 h=>?_)))))))))))
 obtain ⟨x10,v11,h⟩:=h
 refine Zv (OV.loadT rfl rfl rfl v11) (GL.callU (xv:=p_f) (vs:=[.agg (Qk.c x10).toArray]) h trivial rfl rfl rfl ?_)
 rintro _ H13 ⟨r12,rfl,h⟩
 refine GL.nil (Yd h (fun u14 h=>?_) fun u14 h=>?_)
 refine Zo (Zm (Za (GL.nil ?_)))
 exact Y1 I3 ⟨x1,rfl,h⟩
 refine GC.skip_to I3 (GC.region (Zi (.int .i64 (w .i64 (x1+1))) (Zm ?_)))
 exact Yj I3 (w .i64 (x1+1)) h
 refine GC.exit_to I3 (Zo (Za (GL.nil ?_)))
 exact Y1 I3 ⟨(-1),rfl,h⟩
def QV (C:Ctx) (p_s:Sl) (p_f:Value) (K:Int→Heap→Prop) (H:Heap):Prop:=
 lp (α:=Int) 0 H (fun x1 J2 H3=>
 ift (decide ((x1:Int) < (Sl.len p_s:Int)))
 (ixa p_s x1 fun p5=>
 ldT H3 Qf.c (p5.1,p5.2+(x1:Int).toNat*3) fun x10=>
 callU Tryz.prog C p_f [.agg (Qf.c x10).toArray] H3 (fun v H13=>∃ (r12:Bool),v=.bool r12∧
 ift r12
 (K x1 H13)
 (J2 (w .i64 (x1+1)) H13)))
 (K (-1) H3))
theorem Qau (C p_s p_f K H) (h:QV C p_s p_f K H):QaD C p_s p_f K H:=by
 refine Ye Tryz.func201 rfl Tryz.ntmps201 [(0,slv p_s),(1,p_f)] (Zo (Za (GL.nil (GC.seq (Zo (Zm (Zq (Zm (GL.nil (GC.block (Yp h (fun x1=>[(8,.int .i64 x1),(0,slv p_s),(1,p_f),(7,.int .i64 (Sl.len p_s:Int))]) ?_)))))))))))
 intro x1 H3 J2 h
 refine Zo (Zi (.bool (decide ((x1:Int) < (Sl.len p_s:Int)))) (GL.nil (GC.seq (Yd h (fun u4 h=>?_) fun u4 h=>?_))))
 refine GC.skip (GC.seq (GC.block (Zo (Zm (Za (GL.nil (Zo (Zm (Zm (Zm (Yx h fun p5 h=>?_)))))))))))
 obtain ⟨x10,v11,h⟩:=h
 refine Zv (OV.loadT rfl rfl rfl v11) (GL.callU (xv:=p_f) (vs:=[.agg (Qf.c x10).toArray]) h trivial rfl rfl rfl ?_)
 rintro _ H13 ⟨r12,rfl,h⟩
 refine GL.nil (Yd h (fun u14 h=>?_) fun u14 h=>?_)
 refine Zo (Zm (Za (GL.nil ?_)))
 exact Y1 I3 ⟨x1,rfl,h⟩
 refine GC.skip_to I3 (GC.region (Zi (.int .i64 (w .i64 (x1+1))) (Zm ?_)))
 exact Yj I3 (w .i64 (x1+1)) h
 refine GC.exit_to I3 (Zo (Za (GL.nil ?_)))
 exact Y1 I3 ⟨(-1),rfl,h⟩
def Qaf (C:Ctx) (p_s:Sl) (p_f:Value) (K:Bool→Heap→Prop) (H:Heap):Prop:=
 Qbp C p_s p_f (fun r1 H2=>
 K (decide ((r1:Int) ≥ 0)) H2) H
theorem Qa2 (C p_s p_f K H) (h:Qaf C p_s p_f K H):QO C p_s p_f K H:=by
 refine Ye Tryz.func202 rfl Tryz.ntmps202 [(0,slv p_s),(1,p_f)] (Zo (Za (GL.nil (Zo (Zm (Zm (Zc h QdA ?_)))))))
 rintro _ H2 ⟨r1,rfl,h⟩
 refine Zi (.bool (decide ((r1:Int) ≥ 0))) (Za (GL.nil ?_))
 exact Y1 I3 ⟨(decide ((r1:Int) ≥ 0)),rfl,h⟩
def QiA (C:Ctx) (p_x:Qd) (v0:Nat×Nat) (K:Bool→Heap→Prop) (H:Heap):Prop:=
 nw (Qd.c p_x) (fun b1 H2=>
 ldT H2 Qd.c (b1,0) fun x3=>
 ldL H2 v0 fun x5=>
 QfM C x3 x5 (fun r7 H8=>
 K r7 H8) H2) H
theorem Qmj (C p_x v0 K H) (h:QiA C p_x v0 K H):QmS C p_x v0 K H:=by
 refine Ye Tryz.func203 rfl Tryz.ntmps203 [(0,.agg (Qd.c p_x).toArray),(1,pv (some v0))] (Zo (GL.box (v:=.agg (Qd.c p_x).toArray) (cs:=Qd.c p_x) h trivial rfl rfl rfl ?_))
 intro b1 H2 h
 refine Za (GL.nil (Zo ?_))
 obtain ⟨x3,hr4,h⟩:=h
 refine Zv (OV.loadT rfl rfl rfl hr4) (Yl h fun x5 h=>?_)
 refine Zc h Qkm ?_
 rintro _ H8 ⟨r7,rfl,h⟩
 refine Za (GL.nil ?_)
 exact Y1 I3 ⟨r7,rfl,h⟩
def Qda (C:Ctx) (p_s:Str) (p_sep:Str) (K:Str→Str→Bool→Heap→Prop) (H:Heap):Prop:=
 Qbk C p_s p_sep (fun r1 H2=>
 ift (decide ((r1:Int) ≥ 0))
 (slS p_s 0 r1 fun t4=>
 slS p_s (w .i64 (r1+(List.length p_sep:Int))) (List.length p_s:Int) fun t10=>
 K t4 t10 true H2)
 (K p_s [] false H2)) H
theorem QfO (C p_s p_sep K H) (h:Qda C p_s p_sep K H):Qdp C p_s p_sep K H:=by
 refine Ye Tryz.func204 rfl Tryz.ntmps204 [(0,sv p_s),(1,sv p_sep)] (Zo (Za (Za (Za (GL.nil (GC.seq (Zo (Zm (Zm (Zc h Qfs ?_))))))))))
 rintro _ H2 ⟨r1,rfl,h⟩
 refine Za (GL.nil (Zo (Zm (Zi (.bool (decide ((r1:Int) ≥ 0))) (GL.nil (Yd h (fun u3 h=>?_) fun u3 h=>?_))))))
 refine GC.seq (GC.draw (by kernel_rfl) (by kernel_rfl) (GQ.val trivial rfl (OV.move (v:=sv p_s) rfl) (GQ.val trivial rfl (OV.move (v:=.int .i64 r1) rfl) ?_)))
 obtain ⟨h5,h6,h7,t4,h8,h⟩:=h
 refine GQ.val trivial rfl (OV.sliceStr (s:=p_s) h5 h6 h7 h8 rfl rfl rfl rfl rfl rfl) (GQ.val trivial rfl (OV.move (v:=sv p_s) rfl) (GQ.val trivial rfl (OV.move (v:=.int .i64 r1) rfl) (GQ.val trivial rfl (OV.move (v:=sv p_sep) rfl) (GQ.val trivial rfl (OV.lenStr (s:=p_sep) rfl rfl) (GQ.val trivial rfl (OV.ibin (v:=.int .i64 (w .i64 (r1+(List.length p_sep:Int)))) rfl rfl rfl) ?_)))))
 obtain ⟨h11,h12,h13,t10,h14,h⟩:=h
 refine GQ.val trivial rfl (OV.sliceStr (s:=p_s) h11 h12 h13 h14 rfl rfl rfl rfl rfl rfl) (GQ.val trivial rfl (OV.assign (v:=sv t4) rfl) (GQ.val trivial rfl (OV.assign (v:=sv t10) rfl) (GQ.val trivial rfl (OV.assign (v:=.bool true) rfl) (GQ.nil (GL.nil ?_)))))
 exact Y3 I3 ⟨t4,t10,true,rfl,h⟩
 refine GC.skip (Zo (Zm (Za (Za (Za (GL.nil ?_))))))
 exact Y3 I3 ⟨p_s,[],false,rfl,h⟩
def Qga (C:Ctx) (p_w:Option (Nat×Nat)) (p_l:Sl) (p_between:Str) (p_write:Value) (K:Heap→Prop) (H:Heap):Prop:=
 lp (α:=Int) 0 H (fun x1 J2 H3=>
 ift (decide ((x1:Int) < (Sl.len p_l:Int)))
 (ixa p_l x1 fun p5=>
 ldS H3 (p5.1,p5.2+(x1:Int).toNat*1) fun x10=>
 jn (α:=Unit) (fun x13 H14=>
 callU Tryz.prog C p_write [sv x10] H14 (fun v H22=>v=.tuple #[]∧
 J2 (w .i64 (x1+1)) H22))
 (fun J12=>ift (decide ((x1:Int) > 0))
 (nck p_w fun p17=>
 Ql C (some (p17.1,p17.2+0)) p_between (fun r19 r20 H21=>
 J12 () H21) H3)
 (J12 () H3)))
 (K H3))
theorem QkK (C p_w p_l p_between p_write K H) (h:Qga C p_w p_l p_between p_write K H):Qgq C p_w p_l p_between p_write K H:=by
 refine Ye Tryz.func205 rfl Tryz.ntmps205 [(0,pv p_w),(1,slv p_l),(2,sv p_between),(3,p_write)] (Zo (Zm (Zq (Zm (GL.nil (GC.block (Yp h (fun x1=>[(12,.int .i64 x1),(0,pv p_w),(2,sv p_between),(3,p_write),(10,slv p_l),(11,.int .i64 (Sl.len p_l:Int))]) ?_)))))))
 intro x1 H3 J2 h
 refine Zo (Zi (.bool (decide ((x1:Int) < (Sl.len p_l:Int)))) (GL.nil (GC.seq (Yd h (fun u4 h=>?_) fun u4 h=>?_))))
 refine GC.skip (GC.seq (GC.block (Zo (Zm (Yx h fun p5 h=>?_)))))
 refine Yl h fun x10 h=>?_
 refine Za (Za (GL.nil ?_))
 obtain ⟨J12,h,hR15⟩:=h
 refine GC.join (α:=Unit) J12 (fun _=>[(0,pv p_w),(2,sv p_between),(3,p_write),(9,sv x10),(10,slv p_l),(11,.int .i64 (Sl.len p_l:Int)),(12,.int .i64 x1)]) ?_ ?_
 refine Zo (Zm (Zi (.bool (decide ((x1:Int) > 0))) (GL.nil (Yd h (fun u16 h=>?_) fun u16 h=>?_))))
 refine GC.region (Zm ?_)
 obtain ⟨p17,hp18,h⟩:=h
 refine Zv (OV.nilCheck (q:=p_w) rfl hp18) (Zf (Zm (Zc h Qn ?_)))
 rintro _ H21 ⟨r19,r20,rfl,h⟩
 exact Yj I3 () h
 exact Yk I3 () h
 intro x13 H14 h
 replace h:=hR15 x13 H14 h
 refine GC.region (Zm (Zm (GL.callU (xv:=p_write) (vs:=[sv x10]) h trivial rfl rfl rfl ?_)))
 rintro _ H22 ⟨rfl,h⟩
 refine GL.nil_to I3 (GC.region (Zi (.int .i64 (w .i64 (x1+1))) (Zm ?_)))
 exact Yj I3 (w .i64 (x1+1)) h
 exact GC.exit_ends (fun _ _ hf hs=>Qt rfl hf hs ⟨rfl,h⟩)
def QdR (C:Ctx) (p_w:Option (Nat×Nat)) (p_l:Sl) (p_between:Str) (p_write:Value) (K:Heap→Prop) (H:Heap):Prop:=
 lp (α:=Int) 0 H (fun x1 J2 H3=>
 ift (decide ((x1:Int) < (Sl.len p_l:Int)))
 (ixa p_l x1 fun p5=>
 ldT H3 Qf.c (p5.1,p5.2+(x1:Int).toNat*3) fun x10=>
 nw (Qf.c Qf.zero) (fun b12 H13=>
 stT (b12,0) (Qf.c x10) (fun H14=>
 jn (α:=Unit) (fun x16 H17=>
 ldT H17 Qf.c (b12,0) fun x25=>
 callU Tryz.prog C p_write [.agg (Qf.c x25).toArray] H17 (fun v H27=>v=.tuple #[]∧
 J2 (w .i64 (x1+1)) H27))
 (fun J15=>ift (decide ((x1:Int) > 0))
 (nck p_w fun p20=>
 Ql C (some (p20.1,p20.2+0)) p_between (fun r22 r23 H24=>
 J15 () H24) H14)
 (J15 () H14))) H13) H3)
 (K H3))
theorem QgQ (C p_w p_l p_between p_write K H) (h:QdR C p_w p_l p_between p_write K H):QbX C p_w p_l p_between p_write K H:=by
 refine Ye Tryz.func206 rfl Tryz.ntmps206 [(0,pv p_w),(1,slv p_l),(2,sv p_between),(3,p_write)] (Zo (Zm (Zq (Zm (GL.nil (GC.block (Yp h (fun x1=>[(12,.int .i64 x1),(0,pv p_w),(2,sv p_between),(3,p_write),(10,slv p_l),(11,.int .i64 (Sl.len p_l:Int))]) ?_)))))))
 intro x1 H3 J2 h
 refine Zo (Zi (.bool (decide ((x1:Int) < (Sl.len p_l:Int)))) (GL.nil (GC.seq (Yd h (fun u4 h=>?_) fun u4 h=>?_))))
 refine GC.skip (GC.seq (GC.block (Zo (Zm (Yx h fun p5 h=>?_)))))
 obtain ⟨x10,v11,h⟩:=h
 refine Zv (OV.loadT rfl rfl rfl v11) (GL.alloc (cs:=Qf.c Qf.zero) h trivial rfl rfl rfl ?_)
 intro b12 H13 h
 refine Za (GL.storeT (p:=(b12,0)) (vs:=Qf.c x10) h trivial rfl rfl rfl rfl ?_)
 intro H14 h
 refine GL.nil ?_
 obtain ⟨J15,h,hR18⟩:=h
 refine GC.join (α:=Unit) J15 (fun _=>[(0,pv p_w),(2,sv p_between),(3,p_write),(9,pv (some (b12,0))),(10,slv p_l),(11,.int .i64 (Sl.len p_l:Int)),(12,.int .i64 x1)]) ?_ ?_
 refine Zo (Zm (Zi (.bool (decide ((x1:Int) > 0))) (GL.nil (Yd h (fun u19 h=>?_) fun u19 h=>?_))))
 refine GC.region (Zm ?_)
 obtain ⟨p20,hp21,h⟩:=h
 refine Zv (OV.nilCheck (q:=p_w) rfl hp21) (Zf (Zm (Zc h Qn ?_)))
 rintro _ H24 ⟨r22,r23,rfl,h⟩
 exact Yj I3 () h
 exact Yk I3 () h
 intro x16 H17 h
 replace h:=hR18 x16 H17 h
 refine GC.region (Zm ?_)
 obtain ⟨x25,v26,h⟩:=h
 refine Zv (OV.loadT rfl rfl rfl v26) (GL.callU (xv:=p_write) (vs:=[.agg (Qf.c x25).toArray]) h trivial rfl rfl rfl ?_)
 rintro _ H27 ⟨rfl,h⟩
 refine GL.nil_to I3 (GC.region (Zi (.int .i64 (w .i64 (x1+1))) (Zm ?_)))
 exact Yj I3 (w .i64 (x1+1)) h
 exact GC.exit_ends (fun _ _ hf hs=>Qt rfl hf hs ⟨rfl,h⟩)
def QgE (C:Ctx) (p_w:Option (Nat×Nat)) (p_t:Qd) (K:Heap→Prop) (H:Heap):Prop:=
 nw (Qd.c p_t) (fun b1 H2=>
 jn (α:=Unit) (fun x4 H5=>
 ldS H5 ((b1,0).1,(b1,0).2+0) fun x20=>
 jn (α:=Bool) (fun b22 H28=>
 ift b22
 (ldL H28 ((b1,0).1,(b1,0).2+1) fun x30=>
 QbU C p_w x30 (.func (.func 207) (List.toArray [pv p_w]) (List.toArray []):Value) (fun H32=>
 K H32) H28)
 (K H28))
 (fun J23=>ift (x20 == ([116,117,112,108,101]:Str))
 (J23 true H5)
 (ldL H5 ((b1,0).1,(b1,0).2+1) fun x26=>
 J23 (decide (((Sl.len x26:Int):Int) > 0)) H5)))
 (fun J3=>ldS H2 ((b1,0).1,(b1,0).2+0) fun x7=>
 ift (!(x7 == ([116,117,112,108,101]:Str)))
 (dr H2 fun Hs10=>
 nck p_w fun p12=>
 ldS Hs10 ((b1,0).1,(b1,0).2+0) fun x14=>
 Ql C (some (p12.1,p12.2+0)) x14 (fun r17 r18 H19=>
 Heap.le Hs10 H19∧
 J3 () H19) H2)
 (J3 () H2))) H
theorem Qk6 (C p_w p_t K H) (h:QgE C p_w p_t K H):QeX C p_w p_t K H:=by
 refine Ye Tryz.func207 rfl Tryz.ntmps207 [(0,pv p_w),(1,.agg (Qd.c p_t).toArray)] (Zo (GL.box (v:=.agg (Qd.c p_t).toArray) (cs:=Qd.c p_t) h trivial rfl rfl rfl ?_))
 intro b1 H2 h
 refine GL.nil ?_
 obtain ⟨J3,h,hR6⟩:=h
 refine GC.join (α:=Unit) J3 (fun _=>[(0,pv p_w),(3,pv (some (b1,0)))]) ?_ ?_
 refine Zo (Zf (Yl h fun x7 h=>?_))
 refine Zv (OV.sbin (a:=x7) (b:=([116,117,112,108,101]:Str)) (v:=.bool (!(x7 == ([116,117,112,108,101]:Str)))) rfl rfl rfl) (GL.nil (Yd h (fun u9 h=>?_) fun u9 h=>?_))
 obtain ⟨Hs10,hle11,h⟩:=h
 refine GC.any (Hs:=Hs10) (by kernel_rfl) hle11 (Zp 0 rfl Ym ?_)
 obtain ⟨p12,hp13,h⟩:=h
 refine Zp 1 rfl (OV.nilCheck (q:=p_w) rfl hp13) (Zp 2 rfl Yf (Zp 3 rfl Yf ?_))
 obtain ⟨x14,v15,h⟩:=h
 refine Zp 4 rfl (Yo v15) (GA.eff 5 rfl (by kernel_rfl) (Zc h Qn ?_))
 rintro _ H19 ⟨r17,r18,rfl,h⟩
 obtain ⟨hle16,h⟩:=h
 refine GA.back hle16 (GA.done (by kernel_rfl) ?_)
 exact Yj I3 () h
 exact Yk I3 () h
 intro x4 H5 h
 replace h:=hR6 x4 H5 h
 refine Zo (Zf (Yl h fun x20 h=>?_))
 refine Zv (OV.sbin (a:=x20) (b:=([116,117,112,108,101]:Str)) (v:=.bool (x20 == ([116,117,112,108,101]:Str))) rfl rfl rfl) (Zm ?_)
 obtain ⟨J23,h,hR24⟩:=h
 refine GL.cut (α:=Bool) 5 J23 (fun b22=>[(21,.bool b22),(0,pv p_w),(3,pv (some (b1,0)))]) ?_ ?_
 rcases h.em with ⟨u25,h⟩ | ⟨u25,h⟩
 refine Zk u25 (Zk u25 (Zk u25 (Zk u25 (Zt u25 ?_))))
 exact Yj I3 true h
 refine Zu u25 Yf ?_
 obtain ⟨x26,v27,h⟩:=h
 refine Zu u25 (Yo v27) (Zu u25 (OV.lenSl rfl rfl) (Zu u25 (OV.ibin (v:=.bool (decide (((Sl.len x26:Int):Int) > 0))) rfl rfl rfl) (Zn u25 ?_)))
 exact Yj I3 (decide (((Sl.len x26:Int):Int) > 0)) h
 intro b22 H28 h
 replace h:=hR24 b22 H28 h
 refine GL.nil (Yd h (fun u29 h=>?_) fun u29 h=>?_)
 refine GC.region (Zm (Zf (Yl h fun x30 h=>?_)))
 refine Zm (Zv (OV.makeFunc (vs:=[pv p_w]) (us:=[]) rfl rfl) (Zc h Qg3 ?_))
 rintro _ H32 ⟨rfl,h⟩
 exact GL.ends (fun _ _ hf hs=>Qt rfl hf hs ⟨rfl,h⟩)
 exact GC.ends (fun _ _ hf hs=>Qt rfl hf hs ⟨rfl,h⟩)
def Qdg (C:Ctx) (p_w:Option (Nat×Nat)) (p_l:Sl) (p_between:Str) (p_write:Value) (K:Heap→Prop) (H:Heap):Prop:=
 lp (α:=Int) 0 H (fun x1 J2 H3=>
 ift (decide ((x1:Int) < (Sl.len p_l:Int)))
 (ixa p_l x1 fun p5=>
 ldT H3 Qb.c (p5.1,p5.2+(x1:Int).toNat*9) fun x10=>
 nw (Qb.c Qb.zero) (fun b12 H13=>
 stT (b12,0) (Qb.c x10) (fun H14=>
 jn (α:=Unit) (fun x16 H17=>
 ldT H17 Qb.c (b12,0) fun x25=>
 callU Tryz.prog C p_write [.agg (Qb.c x25).toArray] H17 (fun v H27=>v=.tuple #[]∧
 J2 (w .i64 (x1+1)) H27))
 (fun J15=>ift (decide ((x1:Int) > 0))
 (nck p_w fun p20=>
 Ql C (some (p20.1,p20.2+0)) p_between (fun r22 r23 H24=>
 J15 () H24) H14)
 (J15 () H14))) H13) H3)
 (K H3))
theorem Qe4 (C p_w p_l p_between p_write K H) (h:Qdg C p_w p_l p_between p_write K H):QaN C p_w p_l p_between p_write K H:=by
 refine Ye Tryz.func208 rfl Tryz.ntmps208 [(0,pv p_w),(1,slv p_l),(2,sv p_between),(3,p_write)] (Zo (Zm (Zq (Zm (GL.nil (GC.block (Yp h (fun x1=>[(12,.int .i64 x1),(0,pv p_w),(2,sv p_between),(3,p_write),(10,slv p_l),(11,.int .i64 (Sl.len p_l:Int))]) ?_)))))))
 intro x1 H3 J2 h
 refine Zo (Zi (.bool (decide ((x1:Int) < (Sl.len p_l:Int)))) (GL.nil (GC.seq (Yd h (fun u4 h=>?_) fun u4 h=>?_))))
 refine GC.skip (GC.seq (GC.block (Zo (Zm (Yx h fun p5 h=>?_)))))
 obtain ⟨x10,v11,h⟩:=h
 refine Zv (OV.loadT rfl rfl rfl v11) (GL.alloc (cs:=Qb.c Qb.zero) h trivial rfl rfl rfl ?_)
 intro b12 H13 h
 refine Za (GL.storeT (p:=(b12,0)) (vs:=Qb.c x10) h trivial rfl rfl rfl rfl ?_)
 intro H14 h
 refine GL.nil ?_
 obtain ⟨J15,h,hR18⟩:=h
 refine GC.join (α:=Unit) J15 (fun _=>[(0,pv p_w),(2,sv p_between),(3,p_write),(9,pv (some (b12,0))),(10,slv p_l),(11,.int .i64 (Sl.len p_l:Int)),(12,.int .i64 x1)]) ?_ ?_
 refine Zo (Zm (Zi (.bool (decide ((x1:Int) > 0))) (GL.nil (Yd h (fun u19 h=>?_) fun u19 h=>?_))))
 refine GC.region (Zm ?_)
 obtain ⟨p20,hp21,h⟩:=h
 refine Zv (OV.nilCheck (q:=p_w) rfl hp21) (Zf (Zm (Zc h Qn ?_)))
 rintro _ H24 ⟨r22,r23,rfl,h⟩
 exact Yj I3 () h
 exact Yk I3 () h
 intro x16 H17 h
 replace h:=hR18 x16 H17 h
 refine GC.region (Zm ?_)
 obtain ⟨x25,v26,h⟩:=h
 refine Zv (OV.loadT rfl rfl rfl v26) (GL.callU (xv:=p_write) (vs:=[.agg (Qb.c x25).toArray]) h trivial rfl rfl rfl ?_)
 rintro _ H27 ⟨rfl,h⟩
 refine GL.nil_to I3 (GC.region (Zi (.int .i64 (w .i64 (x1+1))) (Zm ?_)))
 exact Yj I3 (w .i64 (x1+1)) h
 exact GC.exit_ends (fun _ _ hf hs=>Qt rfl hf hs ⟨rfl,h⟩)
def Qlz (C:Ctx) (p_v:Qe) (K:Str→Heap→Prop) (H:Heap):Prop:=
 nw (Qe.c p_v) (fun b1 H2=>
 ldT H2 Qe.c (b1,0) fun x3=>
 QbB C x3 (fun r5 H6=>
 ift ((r5:Int) != 0)
 (K [] H6)
 (nwB 145 5 (fun b8 H9=>
 nw ([.nilFunc]) (fun b10 H11=>
 nw ([.nilFunc]) (fun b12 H13=>
 st (b12,0) (.func (.func 231) (List.toArray []) (List.toArray [pv (some (b8,0)),pv (some (b10,0))])) (fun H14=>
 st (b10,0) (.func (.func 232) (List.toArray []) (List.toArray [pv (some (b8,0)),pv (some (b12,0))])) (fun H15=>
 ldV H15 (b10,0) fun x16=>
 ldT H15 Qe.c (b1,0) fun x18=>
 callU Tryz.prog C x16 [.agg (Qe.c x18).toArray] H15 (fun v H20=>v=.tuple #[]∧
 QK C (some (b8,0)) (fun r21 H22=>
 K r21 H22) H20)) H14) H13) H11) H9) H6)) H2) H
theorem QoB (C p_v K H) (h:Qlz C p_v K H):Qjn C p_v K H:=by
 refine Ye Tryz.func209 rfl Tryz.ntmps209 [(0,.agg (Qe.c p_v).toArray)] (Zo (GL.box (v:=.agg (Qe.c p_v).toArray) (cs:=Qe.c p_v) h trivial rfl rfl rfl ?_))
 intro b1 H2 h
 refine Za (GL.nil (GC.seq (Zo ?_)))
 obtain ⟨x3,v4,h⟩:=h
 refine Zv (OV.loadT rfl rfl rfl v4) (Zc h Qkp ?_)
 rintro _ H6 ⟨r5,rfl,h⟩
 refine Zi (.bool ((r5:Int) != 0)) (GL.nil (Yd h (fun u7 h=>?_) fun u7 h=>?_))
 refine Zo (Za (GL.nil ?_))
 exact Y1 I3 ⟨[],rfl,h⟩
 refine GC.skip (Zo (GL.allocB (T:=145) (e:=5) h trivial rfl rfl rfl ?_))
 intro b8 H9 h
 refine GL.nil (Zo (GL.alloc (cs:=[.nilFunc]) h trivial rfl rfl rfl ?_))
 intro b10 H11 h
 refine GL.nil (Zo (Zv (OV.makeFunc (vs:=[]) (us:=[pv (some (b8,0)),pv (some (b10,0))]) rfl rfl) (GL.alloc (cs:=[.nilFunc]) h trivial rfl rfl rfl ?_)))
 intro b12 H13 h
 refine GL.store (p:=(b12,0)) (v:=.func (.func 231) (List.toArray []) (List.toArray [pv (some (b8,0)),pv (some (b10,0))])) h trivial rfl rfl rfl rfl ?_
 intro H14 h
 refine GL.nil (Zo (Zv (OV.makeFunc (vs:=[]) (us:=[pv (some (b8,0)),pv (some (b12,0))]) rfl rfl) (GL.store (p:=(b10,0)) (v:=.func (.func 232) (List.toArray []) (List.toArray [pv (some (b8,0)),pv (some (b12,0))])) h trivial rfl rfl rfl rfl ?_)))
 intro H15 h
 refine GL.nil (Zo (Yl h fun x16 h=>?_))
 obtain ⟨x18,v19,h⟩:=h
 refine Zv (OV.loadT rfl rfl rfl v19) (GL.callU (xv:=x16) (vs:=[.agg (Qe.c x18).toArray]) h trivial rfl rfl rfl ?_)
 rintro _ H20 ⟨rfl,h⟩
 refine GL.nil (Zo (Zc h QdJ ?_))
 rintro _ H22 ⟨r21,rfl,h⟩
 refine Za (GL.nil ?_)
 exact Y1 I3 ⟨r21,rfl,h⟩
def Qgb (C:Ctx) (p_w:Option (Nat×Nat)) (p_e:Qb) (K:Heap→Prop) (H:Heap):Prop:=
 nw (Qb.c p_e) (fun b1 H2=>
 ldS H2 ((b1,0).1,(b1,0).2+3) fun x3=>
 Qeo C x3 (fun r5 H6=>
 ift r5
 (dr H6 fun Hs8=>
 nck p_w fun p10=>
 ldS Hs8 ((b1,0).1,(b1,0).2+3) fun x12=>
 Ql C (some (p10.1,p10.2+0)) x12 (fun r15 r16 H17=>
 Heap.le Hs8 H17∧
 ldL H17 ((b1,0).1,(b1,0).2+8) fun x18=>
 Qy C p_w x18 (.func (.func 169) (List.toArray [pv p_w]) (List.toArray []):Value) (fun H20=>
 K H20) H17) H6)
 (ldL H6 ((b1,0).1,(b1,0).2+8) fun x21=>
 ift (((Sl.len x21:Int):Int) == 1)
 (ldS H6 ((b1,0).1,(b1,0).2+3) fun x24=>
 nw ([sv [40],sv x24,sv [32]]) (fun b26 H27=>
 QA C p_w (Sl.of (some (b26,0)) 3 3) (fun H28=>
 ldL H28 ((b1,0).1,(b1,0).2+8) fun x29=>
 ixa x29 0 fun p31=>
 ldT H28 Qb.c (p31.1,p31.2+(0:Int).toNat*9) fun x36=>
 Qae C p_w x36 (fun H38=>
 nck p_w fun p39=>
 Qq C (some (p39.1,p39.2+0)) 41 (fun r41 H42=>
 K H42) H38) H28) H27) H6)
 (nck p_w fun p43=>
 Qq C (some (p43.1,p43.2+0)) 40 (fun r45 H46=>
 ldL H46 ((b1,0).1,(b1,0).2+8) fun x47=>
 ldS H46 ((b1,0).1,(b1,0).2+3) fun x49=>
 catOk ([32]:Str) x49∧
 catOk (([32]:Str)++x49) ([32]:Str)∧
 QaN C p_w x47 ((([32]:Str)++x49)++([32]:Str)) (.func (.func 169) (List.toArray [pv p_w]) (List.toArray []):Value) (fun H53=>
 nck p_w fun p54=>
 Qq C (some (p54.1,p54.2+0)) 41 (fun r56 H57=>
 K H57) H53) H46) H6))) H2) H
theorem QkL (C p_w p_e K H) (h:Qgb C p_w p_e K H):Qeq C p_w p_e K H:=by
 refine Ye Tryz.func210 rfl Tryz.ntmps210 [(0,pv p_w),(1,.agg (Qb.c p_e).toArray)] (Zo (GL.box (v:=.agg (Qb.c p_e).toArray) (cs:=Qb.c p_e) h trivial rfl rfl rfl ?_))
 intro b1 H2 h
 refine GL.nil (GC.block (Zo (Zf (Yl h fun x3 h=>?_))))
 refine Zc h Qiy ?_
 rintro _ H6 ⟨r5,rfl,h⟩
 refine Za (GL.nil (Yd h (fun u7 h=>?_) fun u7 h=>?_))
 refine GC.seq ?_
 obtain ⟨Hs8,hle9,h⟩:=h
 refine GC.any (Hs:=Hs8) (by kernel_rfl) hle9 (Zp 0 rfl Ym ?_)
 obtain ⟨p10,hp11,h⟩:=h
 refine Zp 1 rfl (OV.nilCheck (q:=p_w) rfl hp11) (Zp 2 rfl Yf (Zp 3 rfl Yf ?_))
 obtain ⟨x12,v13,h⟩:=h
 refine Zp 4 rfl (Yo v13) (GA.eff 5 rfl (by kernel_rfl) (Zc h Qn ?_))
 rintro _ H17 ⟨r15,r16,rfl,h⟩
 obtain ⟨hle14,h⟩:=h
 refine GA.back hle14 (GA.done (by kernel_rfl) (GL.nil (GC.region (Zm (Zf (Yl h fun x18 h=>?_))))))
 refine Zm (Zv (OV.makeFunc (vs:=[pv p_w]) (us:=[]) rfl rfl) (Zc h QR ?_))
 rintro _ H20 ⟨rfl,h⟩
 exact GL.ends (fun _ _ hf hs=>Qt rfl hf hs ⟨rfl,h⟩)
 refine Zo (Zf (Yl h fun x21 h=>?_))
 refine Zq (Zi (.bool (((Sl.len x21:Int):Int) == 1)) (Za (GL.nil (Yd h (fun u23 h=>?_) fun u23 h=>?_))))
 refine Zo (Zm (Zf (Yl h fun x24 h=>?_)))
 refine GL.buildSlice (cs:=[sv [40],sv x24,sv [32]]) h trivial rfl (vs:=[(0,sv [40]),(1,sv x24),(2,sv [32])]) rfl ⟨9,fun _=>by kernel_rfl⟩ ?_
 intro b26 H27 h
 refine Zc h QL ?_
 rintro _ H28 ⟨rfl,h⟩
 refine GL.nil (Zo (Zm (Zf (Yl h fun x29 h=>?_))))
 refine Yx h fun p31 h=>?_
 obtain ⟨x36,v37,h⟩:=h
 refine Zv (OV.loadT rfl rfl rfl v37) (Zc h Q2 ?_)
 rintro _ H38 ⟨rfl,h⟩
 refine GL.nil (GC.region (Zm ?_))
 obtain ⟨p39,hp40,h⟩:=h
 refine Zv (OV.nilCheck (q:=p_w) rfl hp40) (Zf (Zc h Qr ?_))
 rintro _ H42 ⟨r41,rfl,h⟩
 exact GL.ends (fun _ _ hf hs=>Qt rfl hf hs ⟨rfl,h⟩)
 refine Zo (Zm ?_)
 obtain ⟨p43,hp44,h⟩:=h
 refine Zv (OV.nilCheck (q:=p_w) rfl hp44) (Zf (Zc h Qr ?_))
 rintro _ H46 ⟨r45,rfl,h⟩
 refine GL.nil (Zo (Zm (Zf (Yl h fun x47 h=>?_))))
 refine Zf (Yl h fun x49 h=>?_)
 obtain ⟨hl51,h⟩:=h
 refine Zv (OV.cat (a:=([32]:Str)) (b:=x49) rfl rfl hl51) ?_
 obtain ⟨hl52,h⟩:=h
 refine Zv (OV.cat (a:=(([32]:Str)++x49)) (b:=([32]:Str)) rfl rfl hl52) (Zm (Zv (OV.makeFunc (vs:=[pv p_w]) (us:=[]) rfl rfl) (Zc h Qfa ?_)))
 rintro _ H53 ⟨rfl,h⟩
 refine GL.nil (GC.region (Zm ?_))
 obtain ⟨p54,hp55,h⟩:=h
 refine Zv (OV.nilCheck (q:=p_w) rfl hp55) (Zf (Zc h Qr ?_))
 rintro _ H57 ⟨r56,rfl,h⟩
 exact GL.ends (fun _ _ hf hs=>Qt rfl hf hs ⟨rfl,h⟩)
def QfF (C:Ctx) (p_w:Option (Nat×Nat)) (p_e:Qb) (K:Heap→Prop) (H:Heap):Prop:=
 nw (Qb.c p_e) (fun b1 H2=>
 ldL H2 ((b1,0).1,(b1,0).2+8) fun x3=>
 ixa x3 0 fun p5=>
 ldT H2 Qb.c (p5.1,p5.2+(0:Int).toNat*9) fun x10=>
 nw (Qb.c Qb.zero) (fun b12 H13=>
 stT (b12,0) (Qb.c x10) (fun H14=>
 jn (α:=Unit) (fun x16 H17=>
 ldS H17 ((b1,0).1,(b1,0).2+3) fun x51=>
 nw ([sv [46],sv x51]) (fun b53 H54=>
 QA C p_w (Sl.of (some (b53,0)) 2 2) (fun H55=>
 K H55) H54) H17)
 (fun J15=>ldI H14 .u8 ((b12,0).1,(b12,0).2+0) fun x19=>
 jn (α:=Bool) (fun b21 H27=>
 jn (α:=Bool) (fun b28 H43=>
 ift b28
 (ldL H43 ((b1,0).1,(b1,0).2+8) fun x45=>
 Qy C p_w x45 (.func (.func 169) (List.toArray [pv p_w]) (List.toArray []):Value) (fun H47=>
 J15 () H47) H43)
 (ldT H43 Qb.c (b12,0) fun x48=>
 Qae C p_w x48 (fun H50=>
 J15 () H50) H43))
 (fun J29=>ift b21
 (J29 true H27)
 (ldI H27 .u8 ((b12,0).1,(b12,0).2+0) fun x32=>
 jn (α:=Bool) (fun b34 H42=>
 J29 b34 H42)
 (fun J35=>ift ((x32:Int) == 6)
 (ldS H27 ((b12,0).1,(b12,0).2+3) fun x38=>
 Qeo C x38 (fun r40 H41=>
 J35 r40 H41) H27)
 (J35 false H27)))))
 (fun J22=>ift ((x19:Int) == 1)
 (J22 true H14)
 (ldI H14 .u8 ((b12,0).1,(b12,0).2+0) fun x25=>
 J22 ((x25:Int) == 5) H14)))) H13) H2) H
theorem Qka (C p_w p_e K H) (h:QfF C p_w p_e K H):QdU C p_w p_e K H:=by
 refine Ye Tryz.func211 rfl Tryz.ntmps211 [(0,pv p_w),(1,.agg (Qb.c p_e).toArray)] (Zo (GL.box (v:=.agg (Qb.c p_e).toArray) (cs:=Qb.c p_e) h trivial rfl rfl rfl ?_))
 intro b1 H2 h
 refine GL.nil (Zo (Zf (Yl h fun x3 h=>?_)))
 refine Yx h fun p5 h=>?_
 obtain ⟨x10,v11,h⟩:=h
 refine Zv (OV.loadT rfl rfl rfl v11) (GL.alloc (cs:=Qb.c Qb.zero) h trivial rfl rfl rfl ?_)
 intro b12 H13 h
 refine GL.storeT (p:=(b12,0)) (vs:=Qb.c x10) h trivial rfl rfl rfl rfl ?_
 intro H14 h
 refine GL.nil ?_
 obtain ⟨J15,h,hR18⟩:=h
 refine GC.join (α:=Unit) J15 (fun _=>[(0,pv p_w),(3,pv (some (b1,0)))]) ?_ ?_
 refine Zo (Zf (Yl h fun x19 h=>?_))
 refine Zi (.bool ((x19:Int) == 1)) (Zm ?_)
 obtain ⟨J22,h,hR23⟩:=h
 refine GL.cut (α:=Bool) 4 J22 (fun b21=>[(16,.bool b21),(0,pv p_w),(3,pv (some (b1,0))),(4,pv (some (b12,0)))]) ?_ ?_
 rcases h.em with ⟨u24,h⟩ | ⟨u24,h⟩
 refine Zk u24 (Zk u24 (Zk u24 (Zt u24 ?_)))
 exact Yj I3 true h
 refine Zu u24 Yf ?_
 obtain ⟨x25,v26,h⟩:=h
 refine Zu u24 (Yo v26) (Zu u24 (OV.ibin (v:=.bool ((x25:Int) == 5)) rfl rfl rfl) (Zn u24 ?_))
 exact Yj I3 ((x25:Int) == 5) h
 intro b21 H27 h
 replace h:=hR23 b21 H27 h
 refine Zm ?_
 obtain ⟨J29,h,hR30⟩:=h
 refine GL.cut (α:=Bool) 9 J29 (fun b28=>[(26,.bool b28),(0,pv p_w),(3,pv (some (b1,0))),(4,pv (some (b12,0)))]) ?_ ?_
 rcases h.em with ⟨u31,h⟩ | ⟨u31,h⟩
 refine Zk u31 (Zk u31 (Zk u31 (Zk u31 (GL.skip ⟨_,rfl,.inr rfl⟩ rfl (GL.skip ⟨_,rfl,.inr rfl⟩ rfl (GL.skip ⟨_,rfl,.inr rfl⟩ rfl (Zk u31 (Zt u31 ?_))))))))
 exact Yj I3 true h
 refine Zu u31 Yf ?_
 obtain ⟨x32,v33,h⟩:=h
 refine Zu u31 (Yo v33) (Zu u31 (OV.ibin (v:=.bool ((x32:Int) == 6)) rfl rfl rfl) (Zu u31 Ym ?_))
 obtain ⟨J35,h,hR36⟩:=h
 refine GL.cut (α:=Bool) 4 J35 (fun b34=>[(25,.bool b34),(0,pv p_w),(3,pv (some (b1,0))),(4,pv (some (b12,0))),(17,.bool b21)]) ?_ ?_
 rcases h.em with ⟨u37,h⟩ | ⟨u37,h⟩
 refine Zu u37 Yf ?_
 obtain ⟨x38,v39,h⟩:=h
 refine Zu u37 (Yo v39) (GL.call h (Yt u37) rfl Qiy (vs:=[sv x38]) rfl ?_)
 rintro _ H41 ⟨r40,rfl,h⟩
 refine Zu u31 (OV.pickT rfl u37 rfl) ?_
 exact Yj I3 r40 h
 refine Zk u37 (Zk u37 (Zk u37 (Zu u31 (OV.pickF rfl u37 rfl) ?_)))
 exact Yj I3 false h
 intro b34 H42 h
 replace h:=hR36 b34 H42 h
 refine Zn u31 ?_
 exact Yj I3 b34 h
 intro b28 H43 h
 replace h:=hR30 b28 H43 h
 refine GL.nil (Yd h (fun u44 h=>?_) fun u44 h=>?_)
 refine GC.region (Zm (Zf (Yl h fun x45 h=>?_)))
 refine Zm (Zv (OV.makeFunc (vs:=[pv p_w]) (us:=[]) rfl rfl) (Zc h QR ?_))
 rintro _ H47 ⟨rfl,h⟩
 exact Yj I3 () h
 refine GC.region (Zm ?_)
 obtain ⟨x48,v49,h⟩:=h
 refine Zv (OV.loadT rfl rfl rfl v49) (Zc h Q2 ?_)
 rintro _ H50 ⟨rfl,h⟩
 exact Yj I3 () h
 intro x16 H17 h
 replace h:=hR18 x16 H17 h
 refine GC.region (Zm (Zf (Yl h fun x51 h=>?_)))
 refine GL.buildSlice (cs:=[sv [46],sv x51]) h trivial rfl (vs:=[(0,sv [46]),(1,sv x51)]) rfl ⟨9,fun _=>by kernel_rfl⟩ ?_
 intro b53 H54 h
 refine Zc h QL ?_
 rintro _ H55 ⟨rfl,h⟩
 exact GL.ends (fun _ _ hf hs=>Qt rfl hf hs ⟨rfl,h⟩)
def QiC (C:Ctx) (p_a:Sl) (p_b:Sl) (K:Bool→Heap→Prop) (H:Heap):Prop:=
 ift (((Sl.len p_a:Int):Int) != (Sl.len p_b:Int))
 (K false H)
 (lp (α:=Int) 0 H (fun x2 J3 H4=>
 ift (decide ((x2:Int) < (Sl.len p_a:Int)))
 (dr H4 fun Hs6=>
 ixa p_a x2 fun p8=>
 ldT Hs6 Qe.c (p8.1,p8.2+(x2:Int).toNat*4) fun x13=>
 ixa p_b x2 fun p15=>
 ldT Hs6 Qe.c (p15.1,p15.2+(x2:Int).toNat*4) fun x20=>
 Qbm C x13 x20 (fun r23 H24=>
 Heap.le Hs6 H24∧
 ift (!r23)
 (K false H24)
 (J3 (w .i64 (x2+1)) H24)) H4)
 (K true H4)))
theorem Qml (C p_a p_b K H) (h:QiC C p_a p_b K H):QfU C p_a p_b K H:=by
 refine Ye Tryz.func219 rfl Tryz.ntmps219 [(0,slv p_a),(1,slv p_b)] (Zo (Za (GL.nil (GC.seq (Zo (Zm (Zq (Zm (Zq (Zi (.bool (((Sl.len p_a:Int):Int) != (Sl.len p_b:Int))) (GL.nil (Yd h (fun u1 h=>?_) fun u1 h=>?_))))))))))))
 refine Zo (Za (GL.nil ?_))
 exact Y1 I3 ⟨false,rfl,h⟩
 refine GC.skip (GC.seq (Zo (Za (GL.nil (GC.block (Yp h (fun x2=>[(5,.int .i64 x2),(0,slv p_a),(1,slv p_b)]) ?_))))))
 intro x2 H4 J3 h
 refine GC.seq (Zo (Zm (Zm (Zq (Zi (.bool (decide ((x2:Int) < (Sl.len p_a:Int)))) (GL.nil (Yd h (fun u5 h=>?_) fun u5 h=>?_)))))))
 refine GC.skip (GC.seq (GC.block (GC.seq ?_)))
 obtain ⟨Hs6,hle7,h⟩:=h
 refine GC.any (Hs:=Hs6) (by kernel_rfl) hle7 (Zp 0 rfl Ym (Zp 1 rfl Ym ?_))
 obtain ⟨p8,ha9,hb10,u11,hd12,h⟩:=h
 refine Zp 2 rfl (OV.indexAddr rfl rfl rfl rfl ha9 hb10 u11 hd12) ?_
 obtain ⟨x13,v14,h⟩:=h
 refine Zp 3 rfl (OV.loadT rfl rfl rfl v14) (Zp 4 rfl Ym (Zp 5 rfl Ym ?_))
 obtain ⟨p15,ha16,hb17,u18,hd19,h⟩:=h
 refine Zp 6 rfl (OV.indexAddr rfl rfl rfl rfl ha16 hb17 u18 hd19) ?_
 obtain ⟨x20,v21,h⟩:=h
 refine Zp 7 rfl (OV.loadT rfl rfl rfl v21) (GA.eff 8 rfl (by kernel_rfl) (Zc h Qlj ?_))
 rintro _ H24 ⟨r23,rfl,h⟩
 obtain ⟨hle22,h⟩:=h
 refine GA.back hle22 (Zp 9 rfl (OV.not rfl) (GA.done (by kernel_rfl) (GL.nil (Yd h (fun u25 h=>?_) fun u25 h=>?_))))
 refine Zo (Za (GL.nil ?_))
 exact Y1 I3 ⟨false,rfl,h⟩
 refine GC.skip_to I3 (GC.region (Zm (Zi (.int .i64 (w .i64 (x2+1))) (Za ?_))))
 exact Yj I3 (w .i64 (x2+1)) h
 refine GC.exit_to I3 (Zo (Za (GL.nil ?_)))
 exact Y1 I3 ⟨true,rfl,h⟩
def Qd9 (C:Ctx) (p_l:Sl) (p_depth:Value) (K:Int→Heap→Prop) (H:Heap):Prop:=
 lp (α:=Int×Int) (0,0) H (fun x1 J2 H3=>
 ift (decide ((x1.2:Int) < (Sl.len p_l:Int)))
 (ixa p_l x1.2 fun p5=>
 ldT H3 Qd.c (p5.1,p5.2+(x1.2:Int).toNat*2) fun x10=>
 nw (Qd.c Qd.zero) (fun b12 H13=>
 stT (b12,0) (Qd.c x10) (fun H14=>
 ldT H14 Qd.c (b12,0) fun x15=>
 callU Tryz.prog C p_depth [.agg (Qd.c x15).toArray] H14 (fun v H18=>∃ (r17:Int),v=.int .i64 r17∧
 J2 ((if r17 > x1.1 then r17 else x1.1:Int),(w .i64 (x1.2+1))) H18)) H13) H3)
 (K x1.1 H3))
theorem Qhl (C p_l p_depth K H) (h:Qd9 C p_l p_depth K H):Q1 C p_l p_depth K H:=by
 refine Ye Tryz.func220 rfl Tryz.ntmps220 [(0,slv p_l),(1,p_depth)] (Zo (Za (GL.nil (Zo (Za (GL.nil (GC.seq (Zo (Zm (Zq (Zm (GL.nil (GC.block (Yp h (fun x1=>[(5,.int .i64 x1.1),(10,.int .i64 x1.2),(1,p_depth),(8,slv p_l),(9,.int .i64 (Sl.len p_l:Int))]) ?_))))))))))))))
 intro x1 H3 J2 h
 refine Zo (Zi (.bool (decide ((x1.2:Int) < (Sl.len p_l:Int)))) (GL.nil (GC.seq (Yd h (fun u4 h=>?_) fun u4 h=>?_))))
 refine GC.skip (GC.seq (GC.block (Zo (Yx h fun p5 h=>?_))))
 obtain ⟨x10,v11,h⟩:=h
 refine Zv (OV.loadT rfl rfl rfl v11) (GL.alloc (cs:=Qd.c Qd.zero) h trivial rfl rfl rfl ?_)
 intro b12 H13 h
 refine GL.storeT (p:=(b12,0)) (vs:=Qd.c x10) h trivial rfl rfl rfl rfl ?_
 intro H14 h
 refine GL.nil (GC.region (Zm (Zm ?_)))
 obtain ⟨x15,v16,h⟩:=h
 refine Zv (OV.loadT rfl rfl rfl v16) (GL.callU (xv:=p_depth) (vs:=[.agg (Qd.c x15).toArray]) h trivial rfl rfl rfl ?_)
 rintro _ H18 ⟨r17,rfl,h⟩
 refine Zv (OV.maxI rfl rfl) (Za (GL.nil_to I3 (GC.region (Zi (.int .i64 (w .i64 (x1.2+1))) (Zm ?_)))))
 exact Yj I3 ((if r17 > x1.1 then r17 else x1.1:Int),(w .i64 (x1.2+1))) h
 refine GC.exit_to I3 (Zo (Zm (Za (GL.nil ?_))))
 exact Y1 I3 ⟨x1.1,rfl,h⟩
def Qcr (C:Ctx) (p_s:Str) (p_substr:Str) (K:Int→Heap→Prop) (H:Heap):Prop:=
 ift ((((List.length p_substr:Int):Int) == 0) || (p_substr == p_s))
 (K 0 H)
 (ift (((List.length p_substr:Int):Int) == 1)
 (ixs p_substr 0 fun c4=>
 QaV C p_s (c4.toNat:Int) (fun r7 H8=>
 K r7 H8) H)
 (ift (decide (((List.length p_substr:Int):Int) ≥ (List.length p_s:Int)))
 (K (-1) H)
 (ldI H .i64 (0,0) fun x10=>
 ift ((decide (((List.length p_substr:Int):Int)≤x10)) && (decide (((List.length p_s:Int):Int)≤64)))
 (False)
 (ixs p_substr 0 fun c14=>
 ixs p_substr 1 fun c17=>
 lp (α:=Int×Int) (0,0) H (fun x20 J21 H22=>
 ift (decide ((x20.1:Int) < (w .i64 ((w .i64 ((List.length p_s:Int) - (List.length p_substr:Int)))+1))))
 (jn (α:=Int) (fun x25 H26=>
 ixs p_s (w .i64 (x25+1)) fun c41=>
 jn (α:=Bool) (fun b44 H54=>
 ift b44
 (K x25 H54)
 (ldI H54 .i64 (0,0) fun x56=>
 jn (α:=Bool) (fun b58 H64=>
 ift b58
 (False)
 (ldI H64 .i64 (0,0) fun x72=>
 ift (((decide (((List.length p_substr:Int):Int) > x72)) && (decide (((w .i64 (x20.2+1)):Int) ≥ (w .i64 (4+(sShr .i64 (w .i64 (x25+1)) 4)))))) && (decide (((w .i64 (x25+1)):Int) < (w .i64 ((w .i64 ((List.length p_s:Int) - (List.length p_substr:Int)))+1)))))
 (slS p_s (w .i64 (x25+1)) (List.length p_s:Int) fun t77=>
 QcY C t77 p_substr (fun r83 H84=>
 ift (decide ((r83:Int) < 0))
 (K (-1) H84)
 (K (w .i64 ((w .i64 (x25+1))+r83)) H84)) H64)
 (J21 ((w .i64 (x25+1)),(w .i64 (x20.2+1))) H64)))
 (fun J59=>ift (decide (((List.length p_substr:Int):Int)≤x56))
 (Qgg C (w .i64 (x25+1)) (fun r62 H63=>
 J59 (decide (((w .i64 (x20.2+1)):Int) > r62)) H63) H54)
 (J59 false H54))))
 (fun J45=>ift (((c41.toNat:Int):Int) == (c17.toNat:Int))
 (slS p_s x25 (w .i64 (x25+(List.length p_substr:Int))) fun t48=>
 J45 (t48 == p_substr) H26)
 (J45 false H26)))
 (fun J24=>ixs p_s x20.1 fun c28=>
 ift (((c28.toNat:Int):Int) != (c14.toNat:Int))
 (slS p_s (w .i64 (x20.1+1)) (w .i64 ((w .i64 ((List.length p_s:Int) - (List.length p_substr:Int)))+1)) fun t32=>
 QaV C t32 (c14.toNat:Int) (fun r38 H39=>
 ift (decide ((r38:Int) < 0))
 (K (-1) H39)
 (J24 (w .i64 (x20.1+(w .i64 (r38+1)))) H39)) H22)
 (J24 x20.1 H22)))
 (K (-1) H22))))))
theorem Qfl (C p_s p_substr K H) (h:Qcr C p_s p_substr K H):Qbk C p_s p_substr K H:=by
 refine Ye Tryz.func221 rfl Tryz.ntmps221 [(0,sv p_s),(1,sv p_substr)] (Zo (Za (GL.nil (Zo (Zm (Zr (Za (GL.nil (GC.seq (GC.block (Zo (Zm (Zi (.bool (((List.length p_substr:Int):Int) == 0)) (Zm (GL.cut0 4 [(23,.bool ((((List.length p_substr:Int):Int) == 0) || (p_substr == p_s))),(0,sv p_s),(1,sv p_substr),(5,.int .i64 (List.length p_substr:Int))] ?_ ?_)))))))))))))))
 rcases Zb (((List.length p_substr:Int):Int) == 0) with hc1 | hc1
 refine Zk hc1 (Zk hc1 (Zk hc1 (Zt hc1 ?_)))
 exact GL.jump0 I3 () rfl ⟨(by rw [hc1]; rfl),rfl,rfl,rfl,trivial⟩
 refine Zu hc1 Ym (Zu hc1 Ym (Zu hc1 (OV.sbin (a:=p_substr) (b:=p_s) (v:=.bool (p_substr == p_s)) rfl rfl rfl) (Zn hc1 ?_)))
 exact GL.jump0 I3 () rfl ⟨(by rw [hc1]; rfl),rfl,rfl,rfl,trivial⟩
 refine Za (GL.nil (Yd h (fun hc2 h=>?_) fun hc2 h=>?_))
 refine Zo (Za (GL.nil ?_))
 exact Y1 I3 ⟨0,rfl,h⟩
 refine Zo (Zm (Zi (.bool (((List.length p_substr:Int):Int) == 1)) (Za (GL.nil (Yd h (fun hc3 h=>?_) fun hc3 h=>?_)))))
 refine Zo (Zm (Zm (Ys h fun c4 h=>?_)))
 refine Zc h QbD ?_
 rintro _ H8 ⟨r7,rfl,h⟩
 refine Za (GL.nil ?_)
 exact Y1 I3 ⟨r7,rfl,h⟩
 refine Zo (Zm (Zm (Zr (Zi (.bool (decide (((List.length p_substr:Int):Int) ≥ (List.length p_s:Int)))) (Za (GL.nil (Yd h (fun hc9 h=>?_) fun hc9 h=>?_)))))))
 refine Zo (Za (GL.nil ?_))
 exact Y1 I3 ⟨(-1),rfl,h⟩
 refine Zo (Zm (Yl h fun x10 h=>?_))
 refine Zi (.bool (decide (((List.length p_substr:Int):Int)≤x10))) (Zm (GL.cut0 4 [(44,.bool ((decide (((List.length p_substr:Int):Int)≤x10)) && (decide (((List.length p_s:Int):Int)≤64)))),(0,sv p_s),(1,sv p_substr),(5,.int .i64 (List.length p_substr:Int))] ?_ ?_))
 rcases Zb (decide (((List.length p_substr:Int):Int)≤x10)) with hc12 | hc12
 refine Zu hc12 Ym (Zu hc12 (OV.lenStr rfl rfl) (Zu hc12 (OV.ibin (v:=.bool (decide (((List.length p_s:Int):Int)≤64))) rfl rfl rfl) (Zt hc12 ?_)))
 exact GL.jump0 I3 () rfl ⟨(by rw [hc12]; rfl),rfl,rfl,rfl,trivial⟩
 refine Zk hc12 (Zk hc12 (Zk hc12 (Zn hc12 ?_)))
 exact GL.jump0 I3 () rfl ⟨(by rw [hc12]; rfl),rfl,rfl,rfl,trivial⟩
 refine Za (GL.nil (Yd h (fun hc13 h=>?_) fun hc13 h=>?_))
 refine GC.seq ?_
 exact GC.never h
 refine GC.skip_to I3 (Zo (Zm ?_))
 refine Ys h fun c14 h=>?_
 refine Za (GL.nil (Zo (Zm (Ys h fun c17 h=>?_))))
 refine Za (GL.nil (Zo (Za (GL.nil (Zo (Zm (Zr (Zm (Zi (.int .i64 (w .i64 ((List.length p_s:Int) - (List.length p_substr:Int)))) (Zi (.int .i64 (w .i64 ((w .i64 ((List.length p_s:Int) - (List.length p_substr:Int)))+1))) (Za (GL.nil (Zo (Za (GL.nil (GC.seq (GC.block (Yp h (fun x20=>[(8,.int .i64 x20.1),(10,.int .i64 x20.2),(0,sv p_s),(1,sv p_substr),(5,.int .i64 (List.length p_substr:Int)),(6,.int .u8 (c14.toNat:Int)),(7,.int .u8 (c17.toNat:Int)),(9,.int .i64 (w .i64 ((w .i64 ((List.length p_s:Int) - (List.length p_substr:Int)))+1)))]) ?_))))))))))))))))))
 intro x20 H22 J21 h
 refine GC.seq (Zo (Zm (Zm (Zi (.bool (decide ((x20.1:Int) < (w .i64 ((w .i64 ((List.length p_s:Int) - (List.length p_substr:Int)))+1))))) (GL.nil (Yd h (fun hc23 h=>?_) fun hc23 h=>?_))))))
 refine GC.skip (GC.block ?_)
 obtain ⟨J24,h,hR27⟩:=h
 refine GC.join (α:=Int) J24 (fun x25=>[(8,.int .i64 x25),(0,sv p_s),(1,sv p_substr),(5,.int .i64 (List.length p_substr:Int)),(6,.int .u8 (c14.toNat:Int)),(7,.int .u8 (c17.toNat:Int)),(9,.int .i64 (w .i64 ((w .i64 ((List.length p_s:Int) - (List.length p_substr:Int)))+1))),(10,.int .i64 x20.2)]) ?_ ?_
 refine Zo (Zm (Zm (Ys h fun c28 h=>?_)))
 refine Zm (Zi (.bool (((c28.toNat:Int):Int) != (c14.toNat:Int))) (GL.nil (Yd h (fun hc31 h=>?_) fun hc31 h=>?_)))
 refine Zo (Zm (Zm (Zi (.int .i64 (w .i64 (x20.1+1))) (Zm ?_))))
 obtain ⟨h33,h34,h35,t32,h36,h⟩:=h
 refine Zv (OV.sliceStr (s:=p_s) h33 h34 h35 h36 rfl rfl rfl rfl rfl rfl) (Zm (Zc h QbD ?_))
 rintro _ H39 ⟨r38,rfl,h⟩
 refine Za (GL.nil (GC.seq (Zo (Zm (Zi (.bool (decide ((r38:Int) < 0))) (GL.nil (Yd h (fun hc40 h=>?_) fun hc40 h=>?_)))))))
 refine Zo (Za (GL.nil ?_))
 exact Y1 I3 ⟨(-1),rfl,h⟩
 refine GC.skip (GC.region (Zm (Zm (Zi (.int .i64 (w .i64 (r38+1))) (Zi (.int .i64 (w .i64 (x20.1+(w .i64 (r38+1))))) (Za ?_))))))
 exact Yj I3 (w .i64 (x20.1+(w .i64 (r38+1)))) h
 exact Yk I3 x20.1 h
 intro x25 H26 h
 replace h:=hR27 x25 H26 h
 refine GC.seq (Zo (Zm (Zm (Zi (.int .i64 (w .i64 (x25+1))) (Ys h fun c41 h=>?_)))))
 refine Zm (Zi (.bool (((c41.toNat:Int):Int) == (c17.toNat:Int))) (Zm ?_))
 obtain ⟨J45,h,hR46⟩:=h
 refine GL.cut (α:=Bool) 9 J45 (fun b44=>[(93,.bool b44),(0,sv p_s),(1,sv p_substr),(5,.int .i64 (List.length p_substr:Int)),(6,.int .u8 (c14.toNat:Int)),(7,.int .u8 (c17.toNat:Int)),(8,.int .i64 x25),(9,.int .i64 (w .i64 ((w .i64 ((List.length p_s:Int) - (List.length p_substr:Int)))+1))),(10,.int .i64 x20.2)]) ?_ ?_
 rcases h.em with ⟨hc47,h⟩ | ⟨hc47,h⟩
 refine Zu hc47 Ym (Zu hc47 Ym (Zu hc47 Ym (Zu hc47 Ym (Zu hc47 (OV.ibin (v:=.int .i64 (w .i64 (x25+(List.length p_substr:Int)))) rfl rfl rfl) ?_))))
 obtain ⟨h49,h50,h51,t48,h52,h⟩:=h
 refine Zu hc47 (OV.sliceStr (s:=p_s) h49 h50 h51 h52 rfl rfl rfl rfl rfl rfl) (Zu hc47 Ym (Zu hc47 (OV.sbin (a:=t48) (b:=p_substr) (v:=.bool (t48 == p_substr)) rfl rfl rfl) (Zt hc47 ?_)))
 exact Yj I3 (t48 == p_substr) h
 refine Zk hc47 (Zk hc47 (Zk hc47 (Zk hc47 (Zk hc47 (Zk hc47 (Zk hc47 (Zk hc47 (Zn hc47 ?_))))))))
 exact Yj I3 false h
 intro b44 H54 h
 replace h:=hR46 b44 H54 h
 refine GL.nil (Yd h (fun hc55 h=>?_) fun hc55 h=>?_)
 refine Zo (Zm (Za (GL.nil ?_)))
 exact Y1 I3 ⟨x25,rfl,h⟩
 refine GC.skip (Zo (Zm (Zi (.int .i64 (w .i64 (x25+1))) (Za (GL.nil (Zo (Zm (Zi (.int .i64 (w .i64 (x20.2+1))) (Za (GL.nil (Zo (Zm (Yl h fun x56 h=>?_)))))))))))))
 refine Zi (.bool (decide (((List.length p_substr:Int):Int)≤x56))) (Zm ?_)
 obtain ⟨J59,h,hR60⟩:=h
 refine GL.cut (α:=Bool) 5 J59 (fun b58=>[(107,.bool b58),(0,sv p_s),(1,sv p_substr),(5,.int .i64 (List.length p_substr:Int)),(6,.int .u8 (c14.toNat:Int)),(7,.int .u8 (c17.toNat:Int)),(8,.int .i64 (w .i64 (x25+1))),(9,.int .i64 (w .i64 ((w .i64 ((List.length p_s:Int) - (List.length p_substr:Int)))+1))),(10,.int .i64 (w .i64 (x20.2+1)))]) ?_ ?_
 rcases h.em with ⟨hc61,h⟩ | ⟨hc61,h⟩
 refine Zu hc61 Ym (Zu hc61 Ym (GL.call h (Yt hc61) rfl QfZ (vs:=[.int .i64 (w .i64 (x25+1))]) rfl ?_))
 rintro _ H63 ⟨r62,rfl,h⟩
 refine Zu hc61 (OV.ibin (v:=.bool (decide (((w .i64 (x20.2+1)):Int) > r62))) rfl rfl rfl) (Zt hc61 ?_)
 exact Yj I3 (decide (((w .i64 (x20.2+1)):Int) > r62)) h
 refine Zk hc61 (Zk hc61 (Zk hc61 (Zk hc61 (Zn hc61 ?_))))
 exact Yj I3 false h
 intro b58 H64 h
 replace h:=hR60 b58 H64 h
 refine GL.nil (Yd h (fun hc65 h=>?_) fun hc65 h=>?_)
 refine GC.seq ?_
 exact GC.never h
 refine Zo (Zm (Yl h fun x72 h=>?_))
 refine Zi (.bool (decide (((List.length p_substr:Int):Int) > x72))) (Zm (GL.cut0 6 [(127,.bool ((decide (((List.length p_substr:Int):Int) > x72)) && (decide (((w .i64 (x20.2+1)):Int) ≥ (w .i64 (4+(sShr .i64 (w .i64 (x25+1)) 4))))))),(0,sv p_s),(1,sv p_substr),(5,.int .i64 (List.length p_substr:Int)),(6,.int .u8 (c14.toNat:Int)),(7,.int .u8 (c17.toNat:Int)),(8,.int .i64 (w .i64 (x25+1))),(9,.int .i64 (w .i64 ((w .i64 ((List.length p_s:Int) - (List.length p_substr:Int)))+1))),(10,.int .i64 (w .i64 (x20.2+1)))] ?_ ?_))
 rcases Zb (decide (((List.length p_substr:Int):Int) > x72)) with hc74 | hc74
 refine Zu hc74 Ym (Zu hc74 Ym (Zu hc74 (OV.shr rfl rfl (by decide)) (Zu hc74 (OV.ibin (v:=.int .i64 (w .i64 (4+(sShr .i64 (w .i64 (x25+1)) 4)))) rfl rfl rfl) (Zu hc74 (OV.ibin (v:=.bool (decide (((w .i64 (x20.2+1)):Int) ≥ (w .i64 (4+(sShr .i64 (w .i64 (x25+1)) 4)))))) rfl rfl rfl) (Zt hc74 ?_)))))
 exact GL.jump0 I3 () rfl ⟨(by rw [hc74]; rfl),rfl,rfl,rfl,rfl,rfl,rfl,rfl,rfl,trivial⟩
 refine Zk hc74 (Zk hc74 (Zk hc74 (Zk hc74 (Zk hc74 (Zn hc74 ?_)))))
 exact GL.jump0 I3 () rfl ⟨(by rw [hc74]; rfl),rfl,rfl,rfl,rfl,rfl,rfl,rfl,rfl,trivial⟩
 refine Zm (GL.cut0 4 [(132,.bool (((decide (((List.length p_substr:Int):Int) > x72)) && (decide (((w .i64 (x20.2+1)):Int) ≥ (w .i64 (4+(sShr .i64 (w .i64 (x25+1)) 4)))))) && (decide (((w .i64 (x25+1)):Int) < (w .i64 ((w .i64 ((List.length p_s:Int) - (List.length p_substr:Int)))+1)))))),(0,sv p_s),(1,sv p_substr),(5,.int .i64 (List.length p_substr:Int)),(6,.int .u8 (c14.toNat:Int)),(7,.int .u8 (c17.toNat:Int)),(8,.int .i64 (w .i64 (x25+1))),(9,.int .i64 (w .i64 ((w .i64 ((List.length p_s:Int) - (List.length p_substr:Int)))+1))),(10,.int .i64 (w .i64 (x20.2+1)))] ?_ ?_)
 rcases Zb ((decide (((List.length p_substr:Int):Int) > x72)) && (decide (((w .i64 (x20.2+1)):Int) ≥ (w .i64 (4+(sShr .i64 (w .i64 (x25+1)) 4)))))) with hc75 | hc75
 refine Zu hc75 Ym (Zu hc75 Ym (Zu hc75 (OV.ibin (v:=.bool (decide (((w .i64 (x25+1)):Int) < (w .i64 ((w .i64 ((List.length p_s:Int) - (List.length p_substr:Int)))+1))))) rfl rfl rfl) (Zt hc75 ?_)))
 exact GL.jump0 I3 () rfl ⟨(by rw [hc75]; rfl),rfl,rfl,rfl,rfl,rfl,rfl,rfl,rfl,trivial⟩
 refine Zk hc75 (Zk hc75 (Zk hc75 (Zn hc75 ?_)))
 exact GL.jump0 I3 () rfl ⟨(by rw [hc75]; rfl),rfl,rfl,rfl,rfl,rfl,rfl,rfl,rfl,trivial⟩
 refine GL.nil (Yd h (fun hc76 h=>?_) fun hc76 h=>?_)
 refine Zo (Zm (Zm ?_))
 obtain ⟨h78,h79,h80,t77,h81,h⟩:=h
 refine Zv (OV.sliceStr (s:=p_s) h78 h79 h80 h81 rfl rfl rfl rfl rfl rfl) (Zm (Zc h QcK ?_))
 rintro _ H84 ⟨r83,rfl,h⟩
 refine Za (GL.nil (GC.seq (Zo (Zm (Zi (.bool (decide ((r83:Int) < 0))) (GL.nil (Yd h (fun hc85 h=>?_) fun hc85 h=>?_)))))))
 refine Zo (Za (GL.nil ?_))
 exact Y1 I3 ⟨(-1),rfl,h⟩
 refine GC.skip (Zo (Zm (Zm (Zi (.int .i64 (w .i64 ((w .i64 (x25+1))+r83))) (Za (GL.nil ?_))))))
 exact Y1 I3 ⟨(w .i64 ((w .i64 (x25+1))+r83)),rfl,h⟩
 exact Yk I3 ((w .i64 (x25+1)),(w .i64 (x20.2+1))) h
 refine GC.exit_to I3 (Zo (Za (GL.nil ?_)))
 exact Y1 I3 ⟨(-1),rfl,h⟩
def QbG (C:Ctx) (p_s:Sl) (p_f:Value) (K:Int→Heap→Prop) (H:Heap):Prop:=
 lp (α:=Int) 0 H (fun x1 J2 H3=>
 ift (decide ((x1:Int) < (Sl.len p_s:Int)))
 (ixa p_s x1 fun p5=>
 ldS H3 (p5.1,p5.2+(x1:Int).toNat*1) fun x10=>
 callU Tryz.prog C p_f [sv x10] H3 (fun v H13=>∃ (r12:Bool),v=.bool r12∧
 ift r12
 (K x1 H13)
 (J2 (w .i64 (x1+1)) H13)))
 (K (-1) H3))
theorem Qem (C p_s p_f K H) (h:QbG C p_s p_f K H):QbJ C p_s p_f K H:=by
 refine Ye Tryz.func222 rfl Tryz.ntmps222 [(0,slv p_s),(1,p_f)] (Zo (Za (GL.nil (GC.seq (Zo (Zm (Zq (Zm (GL.nil (GC.block (Yp h (fun x1=>[(8,.int .i64 x1),(0,slv p_s),(1,p_f),(7,.int .i64 (Sl.len p_s:Int))]) ?_)))))))))))
 intro x1 H3 J2 h
 refine Zo (Zi (.bool (decide ((x1:Int) < (Sl.len p_s:Int)))) (GL.nil (GC.seq (Yd h (fun u4 h=>?_) fun u4 h=>?_))))
 refine GC.skip (GC.seq (GC.block (Zo (Zm (Za (GL.nil (Zo (Zm (Zm (Zm (Yx h fun p5 h=>?_)))))))))))
 refine Yl h fun x10 h=>?_
 refine GL.callU (xv:=p_f) (vs:=[sv x10]) h trivial rfl rfl rfl ?_
 rintro _ H13 ⟨r12,rfl,h⟩
 refine GL.nil (Yd h (fun u14 h=>?_) fun u14 h=>?_)
 refine Zo (Zm (Za (GL.nil ?_)))
 exact Y1 I3 ⟨x1,rfl,h⟩
 refine GC.skip_to I3 (GC.region (Zi (.int .i64 (w .i64 (x1+1))) (Zm ?_)))
 exact Yj I3 (w .i64 (x1+1)) h
 refine GC.exit_to I3 (Zo (Za (GL.nil ?_)))
 exact Y1 I3 ⟨(-1),rfl,h⟩
def Qi7 (C:Ctx) (p_x:Qd) (v0:Nat×Nat) (K:Bool→Heap→Prop) (H:Heap):Prop:=
 nw (Qd.c p_x) (fun b1 H2=>
 ldV H2 v0 fun x3=>
 ldT H2 Qd.c (b1,0) fun x5=>
 callU Tryz.prog C x3 [.agg (Qd.c x5).toArray] H2 (fun v H8=>∃ (r7:Bool),v=.bool r7∧
 K (!r7) H8)) H
theorem QiQ (C p_x v0 K H) (h:Qi7 C p_x v0 K H):Qjk C p_x v0 K H:=by
 refine Ye Tryz.func223 rfl Tryz.ntmps223 [(0,.agg (Qd.c p_x).toArray),(1,pv (some v0))] (Zo (GL.box (v:=.agg (Qd.c p_x).toArray) (cs:=Qd.c p_x) h trivial rfl rfl rfl ?_))
 intro b1 H2 h
 refine Za (GL.nil (Zo (Yl h fun x3 h=>?_)))
 obtain ⟨x5,hr6,h⟩:=h
 refine Zv (OV.loadT rfl rfl rfl hr6) (GL.callU (xv:=x3) (vs:=[.agg (Qd.c x5).toArray]) h trivial rfl rfl rfl ?_)
 rintro _ H8 ⟨r7,rfl,h⟩
 refine Zv (OV.not rfl) (Za (GL.nil ?_))
 exact Y1 I3 ⟨(!r7),rfl,h⟩
def Qbi (C:Ctx) (p_s:Sl) (p_f:Value) (K:Int→Heap→Prop) (H:Heap):Prop:=
 lp (α:=Int) 0 H (fun x1 J2 H3=>
 ift (decide ((x1:Int) < (Sl.len p_s:Int)))
 (ixa p_s x1 fun p5=>
 ldT H3 Qb.c (p5.1,p5.2+(x1:Int).toNat*9) fun x10=>
 callU Tryz.prog C p_f [.agg (Qb.c x10).toArray] H3 (fun v H13=>∃ (r12:Bool),v=.bool r12∧
 ift r12
 (K x1 H13)
 (J2 (w .i64 (x1+1)) H13)))
 (K (-1) H3))
theorem Qdr (C p_s p_f K H) (h:Qbi C p_s p_f K H):Qbn C p_s p_f K H:=by
 refine Ye Tryz.func224 rfl Tryz.ntmps224 [(0,slv p_s),(1,p_f)] (Zo (Za (GL.nil (GC.seq (Zo (Zm (Zq (Zm (GL.nil (GC.block (Yp h (fun x1=>[(8,.int .i64 x1),(0,slv p_s),(1,p_f),(7,.int .i64 (Sl.len p_s:Int))]) ?_)))))))))))
 intro x1 H3 J2 h
 refine Zo (Zi (.bool (decide ((x1:Int) < (Sl.len p_s:Int)))) (GL.nil (GC.seq (Yd h (fun u4 h=>?_) fun u4 h=>?_))))
 refine GC.skip (GC.seq (GC.block (Zo (Zm (Za (GL.nil (Zo (Zm (Zm (Zm (Yx h fun p5 h=>?_)))))))))))
 obtain ⟨x10,v11,h⟩:=h
 refine Zv (OV.loadT rfl rfl rfl v11) (GL.callU (xv:=p_f) (vs:=[.agg (Qb.c x10).toArray]) h trivial rfl rfl rfl ?_)
 rintro _ H13 ⟨r12,rfl,h⟩
 refine GL.nil (Yd h (fun u14 h=>?_) fun u14 h=>?_)
 refine Zo (Zm (Za (GL.nil ?_)))
 exact Y1 I3 ⟨x1,rfl,h⟩
 refine GC.skip_to I3 (GC.region (Zi (.int .i64 (w .i64 (x1+1))) (Zm ?_)))
 exact Yj I3 (w .i64 (x1+1)) h
 refine GC.exit_to I3 (Zo (Za (GL.nil ?_)))
 exact Y1 I3 ⟨(-1),rfl,h⟩
def QkF (C:Ctx) (p_v:Qe) (K:Int→Heap→Prop) (H:Heap):Prop:=
 nw (Qe.c p_v) (fun b1 H2=>
 ldT H2 Qe.c (b1,0) fun x3=>
 Qbl C x3 65 (fun r5 H6=>
 ift (decide ((r5:Int) > 64))
 (K 65 H6)
 (ldT H6 Qe.c (b1,0) fun x8=>
 Qal C x8 (fun r10 r11 H12=>
 ift (!r10)
 (K 4 H12)
 (ift (!r11)
 (K 40 H12)
 (K 0 H12))) H6)) H2) H
theorem QnS (C p_v K H) (h:QkF C p_v K H):QbB C p_v K H:=by
 refine Ye Tryz.func225 rfl Tryz.ntmps225 [(0,.agg (Qe.c p_v).toArray)] (Zo (GL.box (v:=.agg (Qe.c p_v).toArray) (cs:=Qe.c p_v) h trivial rfl rfl rfl ?_))
 intro b1 H2 h
 refine Za (GL.nil (GC.seq (Zo ?_)))
 obtain ⟨x3,v4,h⟩:=h
 refine Zv (OV.loadT rfl rfl rfl v4) (Zc h Qkq ?_)
 rintro _ H6 ⟨r5,rfl,h⟩
 refine Zi (.bool (decide ((r5:Int) > 64))) (GL.nil (Yd h (fun u7 h=>?_) fun u7 h=>?_))
 refine Zo (Za (GL.nil ?_))
 exact Y1 I3 ⟨65,rfl,h⟩
 refine GC.skip (GC.seq (Zo ?_))
 obtain ⟨x8,v9,h⟩:=h
 refine Zv (OV.loadT rfl rfl rfl v9) (Zc h Qgw ?_)
 rintro _ H12 ⟨r10,r11,rfl,h⟩
 refine Zm (Yv (.bool r10) rfl rfl (Yv (.bool r11) rfl rfl (Za (Za (GL.nil (GC.block (Zo (Zm (Zv (OV.not rfl) (Za (GL.nil (Yd h (fun u13 h=>?_) fun u13 h=>?_))))))))))))
 refine Zo (Za (GL.nil ?_))
 exact Y1 I3 ⟨4,rfl,h⟩
 refine Zo (Zm (Zv (OV.not rfl) (Za (GL.nil (Yd h (fun u14 h=>?_) fun u14 h=>?_)))))
 refine Zo (Za (GL.nil ?_))
 exact Y1 I3 ⟨40,rfl,h⟩
 refine GC.skip_to I3 (Zo (Za (GL.nil ?_)))
 exact Y1 I3 ⟨0,rfl,h⟩
def Qlv (C:Ctx) (K:Option Nat→Heap→Prop) (H:Heap):Prop:=
 mkM (fun b1 H2=>
 upS sv (fun x:Int=>(.int .i64 x:Value)) (some b1) [110,111,116] 1 (fun H3=>
 upS sv (fun x:Int=>(.int .i64 x:Value)) (some b1) [110,101,103] 1 (fun H4=>
 upS sv (fun x:Int=>(.int .i64 x:Value)) (some b1) [108,101,110] 1 (fun H5=>
 upS sv (fun x:Int=>(.int .i64 x:Value)) (some b1) [98,105,103] 1 (fun H6=>
 upS sv (fun x:Int=>(.int .i64 x:Value)) (some b1) [105,110,116] 1 (fun H7=>
 nw ([sv [43],sv [45],sv [42],sv [47],sv [37],sv [43,43],sv [61,61],sv [33,61],sv [60],sv [60,61],sv [62],sv [62,61],sv [97,110,100],sv [111,114]]) (fun b8 H9=>
 lp (α:=Int) 0 H9 (fun x10 J11 H12=>
 ift (decide ((x10:Int) < (Sl.len (Sl.of (some (b8,0)) 14 14):Int)))
 (ixa (Sl.of (some (b8,0)) 14 14) x10 fun p14=>
 ldS H12 (p14.1,p14.2+(x10:Int).toNat*1) fun x19=>
 upS sv (fun x:Int=>(.int .i64 x:Value)) (some b1) x19 2 (fun H21=>
 J11 (w .i64 (x10+1)) H21) H12)
 (K (some b1) H12))) H7) H6) H5) H4) H3) H2) H
theorem Qox (C:Ctx) (K:Option Nat→Heap→Prop) (H:Heap) (h:Qlv C  K H):Qjl C  K H:=by
 refine Spec.enter Tryz.func226 rfl Tryz.ntmps226 rfl (GC.sub [] trivial (Zo (Za (GL.nil (Zo (GL.makeMap h trivial rfl ?_))))))
 intro b1 H2 h
 refine GL.insertS (ke:=sv) (enc:=(fun x:Int=>(.int .i64 x:Value))) (q:=(some b1)) (k:=[110,111,116]) (x:=1) h trivial rfl rfl rfl rfl (kText rfl) ?_
 intro H3 h
 refine GL.insertS (ke:=sv) (enc:=(fun x:Int=>(.int .i64 x:Value))) (q:=(some b1)) (k:=[110,101,103]) (x:=1) h trivial rfl rfl rfl rfl (kText rfl) ?_
 intro H4 h
 refine GL.insertS (ke:=sv) (enc:=(fun x:Int=>(.int .i64 x:Value))) (q:=(some b1)) (k:=[108,101,110]) (x:=1) h trivial rfl rfl rfl rfl (kText rfl) ?_
 intro H5 h
 refine GL.insertS (ke:=sv) (enc:=(fun x:Int=>(.int .i64 x:Value))) (q:=(some b1)) (k:=[98,105,103]) (x:=1) h trivial rfl rfl rfl rfl (kText rfl) ?_
 intro H6 h
 refine GL.insertS (ke:=sv) (enc:=(fun x:Int=>(.int .i64 x:Value))) (q:=(some b1)) (k:=[105,110,116]) (x:=1) h trivial rfl rfl rfl rfl (kText rfl) ?_
 intro H7 h
 refine Zm (Za (GL.nil (GC.seq (Zo (GL.buildSlice (cs:=[sv [43],sv [45],sv [42],sv [47],sv [37],sv [43,43],sv [61,61],sv [33,61],sv [60],sv [60,61],sv [62],sv [62,61],sv [97,110,100],sv [111,114]]) h trivial rfl (vs:=[(0,sv [43]),(1,sv [45]),(2,sv [42]),(3,sv [47]),(4,sv [37]),(5,sv [43,43]),(6,sv [61,61]),(7,sv [33,61]),(8,sv [60]),(9,sv [60,61]),(10,sv [62]),(11,sv [62,61]),(12,sv [97,110,100]),(13,sv [111,114])]) rfl ⟨9,fun _=>by kernel_rfl⟩ ?_)))))
 intro b8 H9 h
 refine Zq (Zm (GL.nil (GC.block (Yp h (fun x10=>[(8,.int .i64 x10),(1,mv (some b1)),(6,slv (Sl.of (some (b8,0)) 14 14)),(7,.int .i64 (Sl.len (Sl.of (some (b8,0)) 14 14):Int))]) ?_))))
 intro x10 H12 J11 h
 refine Zo (Zi (.bool (decide ((x10:Int) < (Sl.len (Sl.of (some (b8,0)) 14 14):Int)))) (GL.nil (GC.seq (Yd h (fun u13 h=>?_) fun u13 h=>?_))))
 refine GC.skip (GC.seq (GC.block (Zo (Yx h fun p14 h=>?_))))
 refine Yl h fun x19 h=>?_
 refine Za (GL.nil (GC.region (Zm (Zm (GL.mapUpdateS (ke:=sv) (enc:=(fun x:Int=>(.int .i64 x:Value))) (q:=(some b1)) (k:=x19) (x:=2) h trivial rfl rfl rfl rfl (kText rfl) ?_)))))
 intro H21 h
 refine GL.nil_to I3 (GC.region (Zi (.int .i64 (w .i64 (x10+1))) (Zm ?_)))
 exact Yj I3 (w .i64 (x10+1)) h
 refine GC.exit_to I3 (Zo (Zm (Za (GL.nil ?_))))
 exact Y1 I3 ⟨(some b1),rfl,h⟩
def Qme (C:Ctx) (p_v:Qe) (K:Bool→Heap→Prop) (H:Heap):Prop:=
 nw (Qe.c p_v) (fun b1 H2=>
 ldI H2 .u8 ((b1,0).1,(b1,0).2+0) fun x3=>
 jn (α:=Bool) (fun b5 H11=>
 jn (α:=Bool) (fun b12 H18=>
 jn (α:=Bool) (fun b19 H25=>
 K b19 H25)
 (fun J20=>ift b12
 (ldL H18 ((b1,0).1,(b1,0).2+3) fun x23=>
 J20 (((Sl.len x23:Int):Int) == 0) H18)
 (J20 false H18)))
 (fun J13=>ift b5
 (ldS H11 ((b1,0).1,(b1,0).2+2) fun x16=>
 J13 (x16 == ([]:Str)) H11)
 (J13 false H11)))
 (fun J6=>ift ((x3:Int) == 0)
 (ldI H2 .i64 ((b1,0).1,(b1,0).2+1) fun x9=>
 J6 ((x9:Int) == 0) H2)
 (J6 false H2))) H
theorem Qpo (C p_v K H) (h:Qme C p_v K H):QdV C p_v K H:=by
 refine Ye Tryz.func227 rfl Tryz.ntmps227 [(0,.agg (Qe.c p_v).toArray)] (Zo (GL.box (v:=.agg (Qe.c p_v).toArray) (cs:=Qe.c p_v) h trivial rfl rfl rfl ?_))
 intro b1 H2 h
 refine Za (GL.nil (Zo (Zf (Yl h fun x3 h=>?_))))
 refine Zi (.bool ((x3:Int) == 0)) (Zm ?_)
 obtain ⟨J6,h,hR7⟩:=h
 refine GL.cut (α:=Bool) 4 J6 (fun b5=>[(10,.bool b5),(1,pv (some (b1,0)))]) ?_ ?_
 rcases h.em with ⟨u8,h⟩ | ⟨u8,h⟩
 refine Zu u8 Yf ?_
 obtain ⟨x9,v10,h⟩:=h
 refine Zu u8 (Yo v10) (Zu u8 (OV.ibin (v:=.bool ((x9:Int) == 0)) rfl rfl rfl) (Zt u8 ?_))
 exact Yj I3 ((x9:Int) == 0) h
 refine Zk u8 (Zk u8 (Zk u8 (Zn u8 ?_)))
 exact Yj I3 false h
 intro b5 H11 h
 replace h:=hR7 b5 H11 h
 refine Zm ?_
 obtain ⟨J13,h,hR14⟩:=h
 refine GL.cut (α:=Bool) 4 J13 (fun b12=>[(15,.bool b12),(1,pv (some (b1,0)))]) ?_ ?_
 rcases h.em with ⟨u15,h⟩ | ⟨u15,h⟩
 refine Zu u15 Yf ?_
 obtain ⟨x16,v17,h⟩:=h
 refine Zu u15 (Yo v17) (Zu u15 (OV.sbin (a:=x16) (b:=([]:Str)) (v:=.bool (x16 == ([]:Str))) rfl rfl rfl) (Zt u15 ?_))
 exact Yj I3 (x16 == ([]:Str)) h
 refine Zk u15 (Zk u15 (Zk u15 (Zn u15 ?_)))
 exact Yj I3 false h
 intro b12 H18 h
 replace h:=hR14 b12 H18 h
 refine Zm ?_
 obtain ⟨J20,h,hR21⟩:=h
 refine GL.cut (α:=Bool) 5 J20 (fun b19=>[(21,.bool b19)]) ?_ ?_
 rcases h.em with ⟨u22,h⟩ | ⟨u22,h⟩
 refine Zu u22 Yf ?_
 obtain ⟨x23,v24,h⟩:=h
 refine Zu u22 (Yo v24) (Zu u22 (OV.lenSl rfl rfl) (Zu u22 (OV.ibin (v:=.bool (((Sl.len x23:Int):Int) == 0)) rfl rfl rfl) (Zt u22 ?_)))
 exact Yj I3 (((Sl.len x23:Int):Int) == 0) h
 refine Zk u22 (Zk u22 (Zk u22 (Zk u22 (Zn u22 ?_))))
 exact Yj I3 false h
 intro b19 H25 h
 replace h:=hR21 b19 H25 h
 refine Za (GL.nil ?_)
 exact Y1 I3 ⟨b19,rfl,h⟩
def QkD (C:Ctx) (p_x:Qb) (v0:Nat×Nat) (K:Bool→Heap→Prop) (H:Heap):Prop:=
 nw (Qb.c p_x) (fun b1 H2=>
 ldT H2 Qb.c (b1,0) fun x3=>
 ldB H2 v0 fun x5=>
 Qcd C x3 x5 (fun r7 H8=>
 K r7 H8) H2) H
theorem QnQ (C p_x v0 K H) (h:QkD C p_x v0 K H):Qdm C p_x v0 K H:=by
 refine Ye Tryz.func228 rfl Tryz.ntmps228 [(0,.agg (Qb.c p_x).toArray),(1,pv (some v0))] (Zo (GL.box (v:=.agg (Qb.c p_x).toArray) (cs:=Qb.c p_x) h trivial rfl rfl rfl ?_))
 intro b1 H2 h
 refine Za (GL.nil (Zo ?_))
 obtain ⟨x3,hr4,h⟩:=h
 refine Zv (OV.loadT rfl rfl rfl hr4) (Yl h fun x5 h=>?_)
 refine Zc h Qjw ?_
 rintro _ H8 ⟨r7,rfl,h⟩
 refine Za (GL.nil ?_)
 exact Y1 I3 ⟨r7,rfl,h⟩
def Qam (C:Ctx) (p_s:Sl) (p_f:Value) (K:Int→Heap→Prop) (H:Heap):Prop:=
 lp (α:=Int) 0 H (fun x1 J2 H3=>
 ift (decide ((x1:Int) < (Sl.len p_s:Int)))
 (ixa p_s x1 fun p5=>
 ldT H3 Qd.c (p5.1,p5.2+(x1:Int).toNat*2) fun x10=>
 callU Tryz.prog C p_f [.agg (Qd.c x10).toArray] H3 (fun v H13=>∃ (r12:Bool),v=.bool r12∧
 ift r12
 (K x1 H13)
 (J2 (w .i64 (x1+1)) H13)))
 (K (-1) H3))
theorem Qbh (C p_s p_f K H) (h:Qam C p_s p_f K H):Qbp C p_s p_f K H:=by
 refine Ye Tryz.func229 rfl Tryz.ntmps229 [(0,slv p_s),(1,p_f)] (Zo (Za (GL.nil (GC.seq (Zo (Zm (Zq (Zm (GL.nil (GC.block (Yp h (fun x1=>[(8,.int .i64 x1),(0,slv p_s),(1,p_f),(7,.int .i64 (Sl.len p_s:Int))]) ?_)))))))))))
 intro x1 H3 J2 h
 refine Zo (Zi (.bool (decide ((x1:Int) < (Sl.len p_s:Int)))) (GL.nil (GC.seq (Yd h (fun u4 h=>?_) fun u4 h=>?_))))
 refine GC.skip (GC.seq (GC.block (Zo (Zm (Za (GL.nil (Zo (Zm (Zm (Zm (Yx h fun p5 h=>?_)))))))))))
 obtain ⟨x10,v11,h⟩:=h
 refine Zv (OV.loadT rfl rfl rfl v11) (GL.callU (xv:=p_f) (vs:=[.agg (Qd.c x10).toArray]) h trivial rfl rfl rfl ?_)
 rintro _ H13 ⟨r12,rfl,h⟩
 refine GL.nil (Yd h (fun u14 h=>?_) fun u14 h=>?_)
 refine Zo (Zm (Za (GL.nil ?_)))
 exact Y1 I3 ⟨x1,rfl,h⟩
 refine GC.skip_to I3 (GC.region (Zi (.int .i64 (w .i64 (x1+1))) (Zm ?_)))
 exact Yj I3 (w .i64 (x1+1)) h
 refine GC.exit_to I3 (Zo (Za (GL.nil ?_)))
 exact Y1 I3 ⟨(-1),rfl,h⟩
def QdP (C:Ctx) (p_w:Option (Nat×Nat)) (p_l:Sl) (p_write:Value) (K:Heap→Prop) (H:Heap):Prop:=
 nck p_w fun p1=>
 Qq C (some (p1.1,p1.2+0)) 40 (fun r3 H4=>
 Qdw C p_w p_l [44,32] p_write (fun H5=>
 nck p_w fun p6=>
 Qq C (some (p6.1,p6.2+0)) 41 (fun r8 H9=>
 K H9) H5) H4) H
theorem QgO (C p_w p_l p_write K H) (h:QdP C p_w p_l p_write K H):QbU C p_w p_l p_write K H:=by
 refine Ye Tryz.func230 rfl Tryz.ntmps230 [(0,pv p_w),(1,slv p_l),(2,p_write)] (Zo (Zm ?_))
 obtain ⟨p1,hp2,h⟩:=h
 refine Zv (OV.nilCheck (q:=p_w) rfl hp2) (Zf (Zc h Qr ?_))
 rintro _ H4 ⟨r3,rfl,h⟩
 refine GL.nil (Zo (Zm (Zm (Zm (Zc h Qjy ?_)))))
 rintro _ H5 ⟨rfl,h⟩
 refine GL.nil (GC.region (Zm ?_))
 obtain ⟨p6,hp7,h⟩:=h
 refine Zv (OV.nilCheck (q:=p_w) rfl hp7) (Zf (Zc h Qr ?_))
 rintro _ H9 ⟨r8,rfl,h⟩
 exact GL.ends (fun _ _ hf hs=>Qt rfl hf hs ⟨rfl,h⟩)
def QjR (C:Ctx) (p_l:Sl) (v0:Nat×Nat) (v1:Nat×Nat) (K:Heap→Prop) (H:Heap):Prop:=
 Qq C (some v0) 40 (fun r1 H2=>
 lp (α:=Int) 0 H2 (fun x3 J4 H5=>
 ift (decide ((x3:Int) < (Sl.len p_l:Int)))
 (ixa p_l x3 fun p7=>
 ldT H5 Qe.c (p7.1,p7.2+(x3:Int).toNat*4) fun x12=>
 nw (Qe.c Qe.zero) (fun b14 H15=>
 stT (b14,0) (Qe.c x12) (fun H16=>
 jn (α:=Unit) (fun x18 H19=>
 ldV H19 v1 fun x25=>
 ldT H19 Qe.c (b14,0) fun x27=>
 callU Tryz.prog C x25 [.agg (Qe.c x27).toArray] H19 (fun v H29=>v=.tuple #[]∧
 J4 (w .i64 (x3+1)) H29))
 (fun J17=>ift (decide ((x3:Int) > 0))
 (Ql C (some v0) [44,32] (fun r22 r23 H24=>
 J17 () H24) H16)
 (J17 () H16))) H15) H5)
 (Qq C (some v0) 41 (fun r30 H31=>
 K H31) H5))) H
theorem QmP (C p_l v0 v1 K H) (h:QjR C p_l v0 v1 K H):QgT C p_l v0 v1 K H:=by
 refine Ye Tryz.func231 rfl Tryz.ntmps231 [(0,slv p_l),(1,pv (some v0)),(2,pv (some v1))] (Zo (Zc h Qr ?_))
 rintro _ H2 ⟨r1,rfl,h⟩
 refine GL.nil (GC.seq (Zo (Zm (Zq (Zm (GL.nil (GC.block (Yp h (fun x3=>[(9,.int .i64 x3),(1,pv (some v0)),(2,pv (some v1)),(7,slv p_l),(8,.int .i64 (Sl.len p_l:Int))]) ?_))))))))
 intro x3 H5 J4 h
 refine Zo (Zi (.bool (decide ((x3:Int) < (Sl.len p_l:Int)))) (GL.nil (GC.seq (Yd h (fun u6 h=>?_) fun u6 h=>?_))))
 refine GC.skip (GC.seq (GC.block (Zo (Zm (Yx h fun p7 h=>?_)))))
 obtain ⟨x12,hr13,h⟩:=h
 refine Zv (OV.loadT rfl rfl rfl hr13) (GL.alloc (cs:=Qe.c Qe.zero) h trivial rfl rfl rfl ?_)
 intro b14 H15 h
 refine Za (GL.storeT (p:=(b14,0)) (vs:=Qe.c x12) h trivial rfl rfl rfl rfl ?_)
 intro H16 h
 refine GL.nil ?_
 obtain ⟨J17,h,hR20⟩:=h
 refine GC.join (α:=Unit) J17 (fun _=>[(1,pv (some v0)),(2,pv (some v1)),(5,pv (some (b14,0))),(7,slv p_l),(8,.int .i64 (Sl.len p_l:Int)),(9,.int .i64 x3)]) ?_ ?_
 refine Zo (Zm (Zi (.bool (decide ((x3:Int) > 0))) (GL.nil (Yd h (fun u21 h=>?_) fun u21 h=>?_))))
 refine GC.region (Zc h Qn ?_)
 rintro _ H24 ⟨r22,r23,rfl,h⟩
 exact Yj I3 () h
 exact Yk I3 () h
 intro x18 H19 h
 replace h:=hR20 x18 H19 h
 refine GC.region (Yl h fun x25 h=>?_)
 obtain ⟨x27,hr28,h⟩:=h
 refine Zv (OV.loadT rfl rfl rfl hr28) (GL.callU (xv:=x25) (vs:=[.agg (Qe.c x27).toArray]) h trivial rfl rfl rfl ?_)
 rintro _ H29 ⟨rfl,h⟩
 refine GL.nil_to I3 (GC.region (Zi (.int .i64 (w .i64 (x3+1))) (Zm ?_)))
 exact Yj I3 (w .i64 (x3+1)) h
 refine GC.exit_to I3 (GC.region (Zc h Qr ?_))
 rintro _ H31 ⟨r30,rfl,h⟩
 exact GL.ends (fun _ _ hf hs=>Qt rfl hf hs ⟨rfl,h⟩)
def QjS (C:Ctx) (p_v:Qe) (v0:Nat×Nat) (v1:Nat×Nat) (K:Heap→Prop) (H:Heap):Prop:=
 nw (Qe.c p_v) (fun b1 H2=>
 ldI H2 .u8 ((b1,0).1,(b1,0).2+0) fun x3=>
 ift ((x3:Int) == 1)
 (ldI H2 .i64 ((b1,0).1,(b1,0).2+1) fun x6=>
 Qdt C ((x6:Int) == 1) (fun r8 H9=>
 Ql C (some v0) r8 (fun r10 r11 H12=>
 K H12) H9) H2)
 (ift ((x3:Int) == 2)
 (ldI H2 .i64 ((b1,0).1,(b1,0).2+1) fun x14=>
 QfV C x14 10 (fun r16 H17=>
 Ql C (some v0) r16 (fun r18 r19 H20=>
 K H20) H17) H2)
 (ift ((x3:Int) == 3)
 (ldS H2 ((b1,0).1,(b1,0).2+2) fun x22=>
 Ql C (some v0) x22 (fun r24 r25 H26=>
 Qq C (some v0) 98 (fun r27 H28=>
 K H28) H26) H2)
 (ift ((x3:Int) == 4)
 (ldS H2 ((b1,0).1,(b1,0).2+2) fun x30=>
 Qij C (some v0) x30 (fun H32=>
 K H32) H2)
 (ift ((x3:Int) == 5)
 (ldV H2 v1 fun x34=>
 ldL H2 ((b1,0).1,(b1,0).2+3) fun x36=>
 callU Tryz.prog C x34 [slv x36] H2 (fun v H38=>v=.tuple #[]∧
 K H38))
 (ldS H2 ((b1,0).1,(b1,0).2+2) fun x39=>
 Ql C (some v0) x39 (fun r41 r42 H43=>
 ldL H43 ((b1,0).1,(b1,0).2+3) fun x44=>
 ift (decide (((Sl.len x44:Int):Int) > 0))
 (ldV H43 v1 fun x47=>
 ldL H43 ((b1,0).1,(b1,0).2+3) fun x49=>
 callU Tryz.prog C x47 [slv x49] H43 (fun v H51=>v=.tuple #[]∧
 K H51))
 (K H43)) H2)))))) H
theorem QmQ (C p_v v0 v1 K H) (h:QjS C p_v v0 v1 K H):QdF C p_v v0 v1 K H:=by
 refine Ye Tryz.func232 rfl Tryz.ntmps232 [(0,.agg (Qe.c p_v).toArray),(1,pv (some v0)),(2,pv (some v1))] (Zo (GL.box (v:=.agg (Qe.c p_v).toArray) (cs:=Qe.c p_v) h trivial rfl rfl rfl ?_))
 intro b1 H2 h
 refine GL.nil (Zo (Zf (Yl h fun x3 h=>?_)))
 refine GL.nil (GC.block (Zo (Zi (.bool ((x3:Int) == 1)) (Za (GL.nil (Yd h (fun u5 h=>?_) fun u5 h=>?_))))))
 refine GC.region (Zf (Yl h fun x6 h=>?_))
 refine Zi (.bool ((x6:Int) == 1)) (Zc h Qjt ?_)
 rintro _ H9 ⟨r8,rfl,h⟩
 refine Zc h Qn ?_
 rintro _ H12 ⟨r10,r11,rfl,h⟩
 exact GL.ends (fun _ _ hf hs=>Qt rfl hf hs ⟨rfl,h⟩)
 refine Zo (Zi (.bool ((x3:Int) == 2)) (Za (GL.nil (Yd h (fun u13 h=>?_) fun u13 h=>?_))))
 refine GC.region (Zf (Yl h fun x14 h=>?_))
 refine Zc h Qkc ?_
 rintro _ H17 ⟨r16,rfl,h⟩
 refine Zc h Qn ?_
 rintro _ H20 ⟨r18,r19,rfl,h⟩
 exact GL.ends (fun _ _ hf hs=>Qt rfl hf hs ⟨rfl,h⟩)
 refine Zo (Zi (.bool ((x3:Int) == 3)) (Za (GL.nil (Yd h (fun u21 h=>?_) fun u21 h=>?_))))
 refine Zo (Zf (Yl h fun x22 h=>?_))
 refine Zc h Qn ?_
 rintro _ H26 ⟨r24,r25,rfl,h⟩
 refine GL.nil (GC.region (Zc h Qr ?_))
 rintro _ H28 ⟨r27,rfl,h⟩
 exact GL.ends (fun _ _ hf hs=>Qt rfl hf hs ⟨rfl,h⟩)
 refine Zo (Zi (.bool ((x3:Int) == 4)) (Za (GL.nil (Yd h (fun u29 h=>?_) fun u29 h=>?_))))
 refine GC.region (Zf (Yl h fun x30 h=>?_))
 refine Zc h Qn2 ?_
 rintro _ H32 ⟨rfl,h⟩
 exact GL.ends (fun _ _ hf hs=>Qt rfl hf hs ⟨rfl,h⟩)
 refine Zo (Zi (.bool ((x3:Int) == 5)) (Za (GL.nil (Yd h (fun u33 h=>?_) fun u33 h=>?_))))
 refine GC.region (Yl h fun x34 h=>?_)
 refine Zf (Yl h fun x36 h=>?_)
 refine GL.callU (xv:=x34) (vs:=[slv x36]) h trivial rfl rfl rfl ?_
 rintro _ H38 ⟨rfl,h⟩
 exact GL.ends (fun _ _ hf hs=>Qt rfl hf hs ⟨rfl,h⟩)
 refine Zo (Zf (Yl h fun x39 h=>?_))
 refine Zc h Qn ?_
 rintro _ H43 ⟨r41,r42,rfl,h⟩
 refine GL.nil (Zo (Zf (Yl h fun x44 h=>?_)))
 refine Zq (Zi (.bool (decide (((Sl.len x44:Int):Int) > 0))) (GL.nil (Yd h (fun u46 h=>?_) fun u46 h=>?_)))
 refine GC.region (Yl h fun x47 h=>?_)
 refine Zf (Yl h fun x49 h=>?_)
 refine GL.callU (xv:=x47) (vs:=[slv x49]) h trivial rfl rfl rfl ?_
 rintro _ H51 ⟨rfl,h⟩
 exact GL.ends (fun _ _ hf hs=>Qt rfl hf hs ⟨rfl,h⟩)
 exact GC.ends (fun _ _ hf hs=>Qt rfl hf hs ⟨rfl,h⟩)
def Qfc (C:Ctx) (p_b:Bool) (K:Str→Heap→Prop) (H:Heap):Prop:=
 Qcm C p_b (fun r1 H2=>
 K r1 H2) H
theorem Qja (C p_b K H) (h:Qfc C p_b K H):Qdt C p_b K H:=by
 refine Ye Tryz.func233 rfl Tryz.ntmps233 [(0,.bool p_b)] (Zo (Za (GL.nil (Zo (Zm (Zc h Qe7 ?_))))))
 rintro _ H2 ⟨r1,rfl,h⟩
 refine Za (GL.nil ?_)
 exact Y1 I3 ⟨r1,rfl,h⟩
def QkH (C:Ctx) (p_b:Option (Nat×Nat)) (p_s:Str) (K:Heap→Prop) (H:Heap):Prop:=
 Qq C p_b 34 (fun r1 H2=>
 lp (α:=Int) 0 H2 (fun x3 J4 H5=>
 ift (decide ((x3:Int) < (List.length p_s:Int)))
 (jn (α:=Unit) (fun x8 H9=>
 J4 (w .i64 (x3+1)) H9)
 (fun J7=>ixs p_s x3 fun c11=>
 ift ((((c11.toNat:Int):Int) == 34) || (((c11.toNat:Int):Int) == 92))
 (Qq C p_b 92 (fun r16 H17=>
 Qq C p_b (c11.toNat:Int) (fun r18 H19=>
 J7 () H19) H17) H5)
 (ift (((c11.toNat:Int):Int) == 10)
 (Ql C p_b [92,110] (fun r21 r22 H23=>
 J7 () H23) H5)
 (ift (((c11.toNat:Int):Int) == 9)
 (Ql C p_b [92,116] (fun r25 r26 H27=>
 J7 () H27) H5)
 (ift ((decide (((c11.toNat:Int):Int) ≥ 32)) && (decide (((c11.toNat:Int):Int)≤126)))
 (Qq C p_b (c11.toNat:Int) (fun r30 H31=>
 J7 () H31) H5)
 (Ql C p_b [92,120] (fun r32 r33 H34=>
 ixs [48,49,50,51,52,53,54,55,56,57,97,98,99,100,101,102] (sShr .u8 (c11.toNat:Int) 4) fun c35=>
 Qq C p_b (c35.toNat:Int) (fun r38 H39=>
 ixs [48,49,50,51,52,53,54,55,56,57,97,98,99,100,101,102] (bAnd .u8 (c11.toNat:Int) 15) fun c40=>
 Qq C p_b (c40.toNat:Int) (fun r43 H44=>
 J7 () H44) H39) H34) H5))))))
 (Qq C p_b 34 (fun r45 H46=>
 K H46) H5))) H
theorem QnU (C p_b p_s K H) (h:QkH C p_b p_s K H):Qij C p_b p_s K H:=by
 refine Ye Tryz.func235 rfl Tryz.ntmps235 [(0,pv p_b),(1,sv p_s)] (Zo (Zm (Zc h Qr ?_)))
 rintro _ H2 ⟨r1,rfl,h⟩
 refine GL.nil (GC.seq (Zo (Zm (Zr (Zm (GL.nil (GC.block (Yp h (fun x3=>[(10,.int .i64 x3),(0,pv p_b),(1,sv p_s),(9,.int .i64 (List.length p_s:Int))]) ?_))))))))
 intro x3 H5 J4 h
 refine Zo (Zi (.bool (decide ((x3:Int) < (List.length p_s:Int)))) (GL.nil (GC.seq (Yd h (fun hc6 h=>?_) fun hc6 h=>?_))))
 refine GC.skip ?_
 obtain ⟨J7,h,hR10⟩:=h
 refine GC.join (α:=Unit) J7 (fun _=>[(0,pv p_b),(1,sv p_s),(9,.int .i64 (List.length p_s:Int)),(10,.int .i64 x3)]) ?_ ?_
 refine GC.block (Zo (Zm (Za (GL.nil (Zo (Zm (Zm (Ys h fun c11 h=>?_))))))))
 refine Za (GL.nil (GC.block (Zo (Zm (Zi (.bool (((c11.toNat:Int):Int) == 34)) (Zm (GL.cut0 3 [(34,.bool ((((c11.toNat:Int):Int) == 34) || (((c11.toNat:Int):Int) == 92))),(0,pv p_b),(1,sv p_s),(5,.int .u8 (c11.toNat:Int)),(9,.int .i64 (List.length p_s:Int)),(10,.int .i64 x3)] ?_ ?_)))))))
 rcases Zb (((c11.toNat:Int):Int) == 34) with hc14 | hc14
 refine Zk hc14 (Zk hc14 (Zt hc14 ?_))
 exact GL.jump0 I3 () rfl ⟨(by rw [hc14]; rfl),rfl,rfl,rfl,rfl,rfl,trivial⟩
 refine Zu hc14 Ym (Zu hc14 (OV.ibin (v:=.bool (((c11.toNat:Int):Int) == 92)) rfl rfl rfl) (Zn hc14 ?_))
 exact GL.jump0 I3 () rfl ⟨(by rw [hc14]; rfl),rfl,rfl,rfl,rfl,rfl,trivial⟩
 refine Za (GL.nil (Yd h (fun hc15 h=>?_) fun hc15 h=>?_))
 refine Zo (Zm (Zc h Qr ?_))
 rintro _ H17 ⟨r16,rfl,h⟩
 refine GL.nil (GC.region (Zm (Zm (Zc h Qr ?_))))
 rintro _ H19 ⟨r18,rfl,h⟩
 exact Yj I3 () h
 refine Zo (Zm (Zi (.bool (((c11.toNat:Int):Int) == 10)) (Za (GL.nil (Yd h (fun hc20 h=>?_) fun hc20 h=>?_)))))
 refine GC.region (Zm (Zc h Qn ?_))
 rintro _ H23 ⟨r21,r22,rfl,h⟩
 exact Yj I3 () h
 refine Zo (Zm (Zi (.bool (((c11.toNat:Int):Int) == 9)) (Za (GL.nil (Yd h (fun hc24 h=>?_) fun hc24 h=>?_)))))
 refine GC.region (Zm (Zc h Qn ?_))
 rintro _ H27 ⟨r25,r26,rfl,h⟩
 exact Yj I3 () h
 refine Zo (Zm (Zi (.bool (decide (((c11.toNat:Int):Int) ≥ 32))) (Zm (GL.cut0 3 [(56,.bool ((decide (((c11.toNat:Int):Int) ≥ 32)) && (decide (((c11.toNat:Int):Int)≤126)))),(0,pv p_b),(1,sv p_s),(5,.int .u8 (c11.toNat:Int)),(9,.int .i64 (List.length p_s:Int)),(10,.int .i64 x3)] ?_ ?_))))
 rcases Zb (decide (((c11.toNat:Int):Int) ≥ 32)) with hc28 | hc28
 refine Zu hc28 Ym (Zu hc28 (OV.ibin (v:=.bool (decide (((c11.toNat:Int):Int)≤126))) rfl rfl rfl) (Zt hc28 ?_))
 exact GL.jump0 I3 () rfl ⟨(by rw [hc28]; rfl),rfl,rfl,rfl,rfl,rfl,trivial⟩
 refine Zk hc28 (Zk hc28 (Zn hc28 ?_))
 exact GL.jump0 I3 () rfl ⟨(by rw [hc28]; rfl),rfl,rfl,rfl,rfl,rfl,trivial⟩
 refine Za (GL.nil (Yd h (fun hc29 h=>?_) fun hc29 h=>?_))
 refine GC.region (Zm (Zm (Zc h Qr ?_)))
 rintro _ H31 ⟨r30,rfl,h⟩
 exact Yj I3 () h
 refine Zo (Zm (Zc h Qn ?_))
 rintro _ H34 ⟨r32,r33,rfl,h⟩
 refine GL.nil (Zo (Zm (Zm (Zv (OV.shr rfl rfl (by decide)) (Ys h fun c35 h=>?_)))))
 refine Zc h Qr ?_
 rintro _ H39 ⟨r38,rfl,h⟩
 refine GL.nil (GC.region (Zm (Zm (Zi (.int .u8 (bAnd .u8 (c11.toNat:Int) 15)) (Ys h fun c40 h=>?_)))))
 refine Zc h Qr ?_
 rintro _ H44 ⟨r43,rfl,h⟩
 exact Yj I3 () h
 intro x8 H9 h
 replace h:=hR10 x8 H9 h
 refine GC.region (Zi (.int .i64 (w .i64 (x3+1))) (Zm ?_))
 exact Yj I3 (w .i64 (x3+1)) h
 refine GC.exit_to I3 (GC.region (Zm (Zc h Qr ?_)))
 rintro _ H46 ⟨r45,rfl,h⟩
 exact GL.ends (fun _ _ hf hs=>Qt rfl hf hs ⟨rfl,h⟩)
def QiF (C:Ctx) (p_s:Str) (K:Bool→Heap→Prop) (H:Heap):Prop:=
 K ((((p_s == ([110,101,103]:Str)) || (p_s == ([108,101,110]:Str))) || (p_s == ([98,105,103]:Str))) || (p_s == ([105,110,116]:Str))) H
theorem Qmo (C p_s K H) (h:QiF C p_s K H):Qeo C p_s K H:=by
 refine Ye Tryz.func236 rfl Tryz.ntmps236 [(0,sv p_s)] (Zo (Za (GL.nil (Zo (Zm (Zv (OV.sbin (a:=p_s) (b:=([110,101,103]:Str)) (v:=.bool (p_s == ([110,101,103]:Str))) rfl rfl rfl) (Zm (GL.cut0 3 [(8,.bool ((p_s == ([110,101,103]:Str)) || (p_s == ([108,101,110]:Str)))),(0,sv p_s)] ?_ ?_))))))))
 rcases Zb (p_s == ([110,101,103]:Str)) with u1 | u1
 refine Zk u1 (Zk u1 (Zt u1 ?_))
 exact GL.jump0 I3 () rfl ⟨(by rw [u1]; rfl),rfl,trivial⟩
 refine Zu u1 Ym (Zu u1 (OV.sbin (a:=p_s) (b:=([108,101,110]:Str)) (v:=.bool (p_s == ([108,101,110]:Str))) rfl rfl rfl) (Zn u1 ?_))
 exact GL.jump0 I3 () rfl ⟨(by rw [u1]; rfl),rfl,trivial⟩
 refine Zm (GL.cut0 3 [(12,.bool (((p_s == ([110,101,103]:Str)) || (p_s == ([108,101,110]:Str))) || (p_s == ([98,105,103]:Str)))),(0,sv p_s)] ?_ ?_)
 rcases Zb ((p_s == ([110,101,103]:Str)) || (p_s == ([108,101,110]:Str))) with u2 | u2
 refine Zk u2 (Zk u2 (Zt u2 ?_))
 exact GL.jump0 I3 () rfl ⟨(by rw [u2]; rfl),rfl,trivial⟩
 refine Zu u2 Ym (Zu u2 (OV.sbin (a:=p_s) (b:=([98,105,103]:Str)) (v:=.bool (p_s == ([98,105,103]:Str))) rfl rfl rfl) (Zn u2 ?_))
 exact GL.jump0 I3 () rfl ⟨(by rw [u2]; rfl),rfl,trivial⟩
 refine Zm (GL.cut0 3 [(16,.bool ((((p_s == ([110,101,103]:Str)) || (p_s == ([108,101,110]:Str))) || (p_s == ([98,105,103]:Str))) || (p_s == ([105,110,116]:Str))))] ?_ ?_)
 rcases Zb (((p_s == ([110,101,103]:Str)) || (p_s == ([108,101,110]:Str))) || (p_s == ([98,105,103]:Str))) with u3 | u3
 refine Zk u3 (Zk u3 (Zt u3 ?_))
 exact GL.jump0 I3 () rfl ⟨(by rw [u3]; rfl),trivial⟩
 refine Zu u3 Ym (Zu u3 (OV.sbin (a:=p_s) (b:=([105,110,116]:Str)) (v:=.bool (p_s == ([105,110,116]:Str))) rfl rfl rfl) (Zn u3 ?_))
 exact GL.jump0 I3 () rfl ⟨(by rw [u3]; rfl),trivial⟩
 refine Za (GL.nil ?_)
 exact Y1 I3 ⟨((((p_s == ([110,101,103]:Str)) || (p_s == ([108,101,110]:Str))) || (p_s == ([98,105,103]:Str))) || (p_s == ([105,110,116]:Str))),rfl,h⟩
def QbF (C:Ctx) (p_s:Str) (p_c:Int) (K:Int→Heap→Prop) (H:Heap):Prop:=
 K (idxB p_s p_c) H
theorem Qel (C p_s p_c K H) (h:QbF C p_s p_c K H):QaV C p_s p_c K H:=by
 refine Ye Tryz.func241 rfl Tryz.ntmps241 [(0,sv p_s),(1,.int .u8 p_c)] (Zo (Za (GL.nil (Zo (Zm (Zm (Zv (OV.ext QdG (vs:=[sv p_s,.int .u8 p_c]) (v:=.int .i64 (idxB p_s p_c)) rfl (fun w=>Qtx _ _ w)) (Za (GL.nil ?_)))))))))
 exact Y1 I3 ⟨(idxB p_s p_c),rfl,h⟩
end
section
set_option maxRecDepth 100000
open Go Go.Proofs
def QkG (C:Ctx) (p_v:Qe) (p_most:Int) (K:Int→Heap→Prop) (H:Heap):Prop:=
 nw (Qe.c p_v) (fun b1 H2=>
 jn (α:=Int) (fun x4 H5=>
 K (w .i64 (x4+1)) H5)
 (fun J3=>ldL H2 ((b1,0).1,(b1,0).2+3) fun x7=>
 lp (α:=Int×Int) (0,0) H2 (fun x9 J10 H11=>
 ift (decide ((x9.2:Int) < (Sl.len x7:Int)))
 (ixa x7 x9.2 fun p13=>
 ldT H11 Qe.c (p13.1,p13.2+(x9.2:Int).toNat*4) fun x18=>
 nw (Qe.c Qe.zero) (fun b20 H21=>
 stT (b20,0) (Qe.c x18) (fun H22=>
 ift (decide ((x9.1:Int) ≥ p_most))
 (J3 x9.1 H22)
 (ldT H22 Qe.c (b20,0) fun x24=>
 Qbl C x24 (w .i64 (p_most - 1)) (fun r26 H27=>
 J10 ((if r26 > x9.1 then r26 else x9.1:Int),(w .i64 (x9.2+1))) H27) H22)) H21) H11)
 (J3 x9.1 H11)))) H
theorem QnT (C p_v p_most K H) (h:QkG C p_v p_most K H):Qbl C p_v p_most K H:=by
 refine Ye Tryz.func245 rfl Tryz.ntmps245 [(0,.agg (Qe.c p_v).toArray),(1,.int .i64 p_most)] (Zo (GL.box (v:=.agg (Qe.c p_v).toArray) (cs:=Qe.c p_v) h trivial rfl rfl rfl ?_))
 intro b1 H2 h
 refine Za (GL.nil (Zo (Za (GL.nil ?_))))
 obtain ⟨J3,h,hR6⟩:=h
 refine GC.join (α:=Int) J3 (fun x4=>[(5,.int .i64 x4)]) ?_ ?_
 refine Zo (Zf (Yl h fun x7 h=>?_))
 refine Zq (Zm (GL.nil (GC.block (Yp h (fun x9=>[(5,.int .i64 x9.1),(11,.int .i64 x9.2),(1,.int .i64 p_most),(9,slv x7),(10,.int .i64 (Sl.len x7:Int))]) ?_))))
 intro x9 H11 J10 h
 refine Zo (Zi (.bool (decide ((x9.2:Int) < (Sl.len x7:Int)))) (GL.nil (GC.seq (Yd h (fun u12 h=>?_) fun u12 h=>?_))))
 refine GC.skip (GC.seq (GC.block (Zo (Yx h fun p13 h=>?_))))
 obtain ⟨x18,v19,h⟩:=h
 refine Zv (OV.loadT rfl rfl rfl v19) (GL.alloc (cs:=Qe.c Qe.zero) h trivial rfl rfl rfl ?_)
 intro b20 H21 h
 refine GL.storeT (p:=(b20,0)) (vs:=Qe.c x18) h trivial rfl rfl rfl rfl ?_
 intro H22 h
 refine GL.nil (GC.seq (Zo (Zm (Zm (Zi (.bool (decide ((x9.1:Int) ≥ p_most))) (GL.nil (Yd h (fun u23 h=>?_) fun u23 h=>?_)))))))
 exact GC.exit_jump I3 x9.1 h ⟨rfl,trivial⟩
 refine GC.skip (GC.region (Zm ?_))
 obtain ⟨x24,v25,h⟩:=h
 refine Zv (OV.loadT rfl rfl rfl v25) (Zm (Zi (.int .i64 (w .i64 (p_most - 1))) (Zc h Qkq ?_)))
 rintro _ H27 ⟨r26,rfl,h⟩
 refine Zv (OV.maxI rfl rfl) (Za (GL.nil_to I3 (GC.region (Zi (.int .i64 (w .i64 (x9.2+1))) (Zm ?_)))))
 exact Yj I3 ((if r26 > x9.1 then r26 else x9.1:Int),(w .i64 (x9.2+1))) h
 exact GC.exit_jump I3 x9.1 h ⟨rfl,trivial⟩
 intro x4 H5 h
 replace h:=hR6 x4 H5 h
 refine Zo (Zm (Zi (.int .i64 (w .i64 (x4+1))) (Za (GL.nil ?_))))
 exact Y1 I3 ⟨(w .i64 (x4+1)),rfl,h⟩
def QgF (C:Ctx) (p_v:Qe) (K:Bool→Bool→Heap→Prop) (H:Heap):Prop:=
 nw (Qe.c p_v) (fun b1 H2=>
 ldI H2 .i64 ((b1,0).1,(b1,0).2+1) fun x3=>
 jn (α:=Bool) (fun b5 H11=>
 jn (α:=Bool) (fun b12 H18=>
 jn (α:=Bool×Bool) (fun x20 H21=>
 ldL H21 ((b1,0).1,(b1,0).2+3) fun x149=>
 lp (α:=Bool×Bool×Int) (x20.1,x20.2,0) H21 (fun x151 J152 H153=>
 ift (decide ((x151.2.2:Int) < (Sl.len x149:Int)))
 (ixa x149 x151.2.2 fun p155=>
 ldT H153 Qe.c (p155.1,p155.2+(x151.2.2:Int).toNat*4) fun x160=>
 nw (Qe.c Qe.zero) (fun b162 H163=>
 stT (b162,0) (Qe.c x160) (fun H164=>
 ldT H164 Qe.c (b162,0) fun x165=>
 Qal C x165 (fun r167 r168 H169=>
 J152 ((x151.1 && r167),(x151.2.1 && r168),(w .i64 (x151.2.2+1))) H169) H164) H163) H153)
 (K x151.1 x151.2.1 H153)))
 (fun J19=>ldI H18 .u8 ((b1,0).1,(b1,0).2+0) fun x23=>
 ift ((x23:Int) == 1)
 (ldI H18 .i64 ((b1,0).1,(b1,0).2+1) fun x26=>
 jn (α:=Bool) (fun b28 H34=>
 jn (α:=Bool) (fun b35 H41=>
 jn (α:=Bool) (fun b42 H48=>
 J19 (b42,true) H48)
 (fun J43=>ift b35
 (ldL H41 ((b1,0).1,(b1,0).2+3) fun x46=>
 J43 (((Sl.len x46:Int):Int) == 0) H41)
 (J43 false H41)))
 (fun J36=>ift b28
 (ldS H34 ((b1,0).1,(b1,0).2+2) fun x39=>
 J36 (x39 == ([]:Str)) H34)
 (J36 false H34)))
 (fun J29=>ift ((x26:Int) == 0)
 (J29 true H18)
 (ldI H18 .i64 ((b1,0).1,(b1,0).2+1) fun x32=>
 J29 ((x32:Int) == 1) H18)))
 (ift ((x23:Int) == 2)
 (ldS H18 ((b1,0).1,(b1,0).2+2) fun x50=>
 jn (α:=Bool) (fun b52 H58=>
 J19 (b52,true) H58)
 (fun J53=>ift (x50 == ([]:Str))
 (ldL H18 ((b1,0).1,(b1,0).2+3) fun x56=>
 J53 (((Sl.len x56:Int):Int) == 0) H18)
 (J53 false H18)))
 (ift ((x23:Int) == 3)
 (ldS H18 ((b1,0).1,(b1,0).2+2) fun x60=>
 QgU C x60 (fun r62 r63 H64=>
 jn (α:=Bool) (fun b65 H71=>
 jn (α:=Bool) (fun b72 H78=>
 J19 (b72,(decide ((r62:Int)≤200))) H78)
 (fun J73=>ift b65
 (ldL H71 ((b1,0).1,(b1,0).2+3) fun x76=>
 J73 (((Sl.len x76:Int):Int) == 0) H71)
 (J73 false H71)))
 (fun J66=>ift r63
 (ldI H64 .i64 ((b1,0).1,(b1,0).2+1) fun x69=>
 J66 ((x69:Int) == 0) H64)
 (J66 false H64))) H18)
 (ift ((x23:Int) == 4)
 (jn (α:=Bool×Bool) (fun x81 H82=>
 J19 (x81.1,x81.2) H82)
 (fun J80=>dr H18 fun Hs84=>
 ldI Hs84 .i64 ((b1,0).1,(b1,0).2+1) fun x86=>
 ldS Hs84 ((b1,0).1,(b1,0).2+2) fun x88=>
 ift ((x86:Int) == 0)
 (ldL Hs84 ((b1,0).1,(b1,0).2+3) fun x91=>
 J80 ((((Sl.len x91:Int):Int) == 0),(decide (((List.length x88:Int):Int)≤4096))) H18)
 (J80 (false,(decide (((List.length x88:Int):Int)≤4096))) H18)))
 (ift ((x23:Int) == 5)
 (jn (α:=Bool×Bool) (fun x95 H96=>
 J19 (x95.1,x95.2) H96)
 (fun J94=>dr H18 fun Hs98=>
 ldI Hs98 .i64 ((b1,0).1,(b1,0).2+1) fun x100=>
 ldL Hs98 ((b1,0).1,(b1,0).2+3) fun x102=>
 ift ((x100:Int) == 0)
 (ldS Hs98 ((b1,0).1,(b1,0).2+2) fun x105=>
 ift (x105 == ([]:Str))
 (ldL Hs98 ((b1,0).1,(b1,0).2+3) fun x108=>
 J94 ((((Sl.len x108:Int):Int) != 1),(decide (((Sl.len x102:Int):Int)≤16))) H18)
 (J94 (false,(decide (((Sl.len x102:Int):Int)≤16))) H18))
 (J94 (false,(decide (((Sl.len x102:Int):Int)≤16))) H18)))
 (ift ((x23:Int) == 6)
 (ldS H18 ((b1,0).1,(b1,0).2+2) fun x111=>
 Qen C x111 [46] (fun r113 r114 r115 H116=>
 jn (α:=Bool×Bool) (fun x118 H119=>
 J19 (x118.1,x118.2) H119)
 (fun J117=>dr H116 fun Hs121=>
 ldI Hs121 .i64 ((b1,0).1,(b1,0).2+1) fun x123=>
 ldL Hs121 ((b1,0).1,(b1,0).2+3) fun x125=>
 ift ((x123:Int) == 0)
 (QdX C r113 (fun r129 H130=>
 Heap.le Hs121 H130∧
 ift r129
 (ift r115
 (QdX C r114 (fun r134 H135=>
 Heap.le Hs121 H135∧
 ift r134
 (J117 (true,(decide (((Sl.len x125:Int):Int)≤8))) H135)
 (ift (!r115)
 (ldS Hs121 ((b1,0).1,(b1,0).2+2) fun x138=>
 ift (!(x138 == ([116,114,117,101]:Str)))
 (ldS Hs121 ((b1,0).1,(b1,0).2+2) fun x141=>
 J117 ((!(x141 == ([102,97,108,115,101]:Str))),(decide (((Sl.len x125:Int):Int)≤8))) H135)
 (J117 (false,(decide (((Sl.len x125:Int):Int)≤8))) H135))
 (J117 (false,(decide (((Sl.len x125:Int):Int)≤8))) H135))) H130)
 (ift (!r115)
 (ldS Hs121 ((b1,0).1,(b1,0).2+2) fun x144=>
 ift (!(x144 == ([116,114,117,101]:Str)))
 (ldS Hs121 ((b1,0).1,(b1,0).2+2) fun x147=>
 J117 ((!(x147 == ([102,97,108,115,101]:Str))),(decide (((Sl.len x125:Int):Int)≤8))) H130)
 (J117 (false,(decide (((Sl.len x125:Int):Int)≤8))) H130))
 (J117 (false,(decide (((Sl.len x125:Int):Int)≤8))) H130)))
 (J117 (false,(decide (((Sl.len x125:Int):Int)≤8))) H130)) H116)
 (J117 (false,(decide (((Sl.len x125:Int):Int)≤8))) H116))) H18)
 (J19 (false,true) H18))))))))
 (fun J13=>ift b5
 (ldL H11 ((b1,0).1,(b1,0).2+3) fun x16=>
 J13 (((Sl.len x16:Int):Int) == 0) H11)
 (J13 false H11)))
 (fun J6=>ift ((x3:Int) == 0)
 (ldS H2 ((b1,0).1,(b1,0).2+2) fun x9=>
 J6 (x9 == ([]:Str)) H2)
 (J6 false H2))) H
theorem Qk7 (C p_v K H) (h:QgF C p_v K H):Qal C p_v K H:=by
 refine Ye Tryz.func246 rfl Tryz.ntmps246 [(0,.agg (Qe.c p_v).toArray)] (Zo (GL.box (v:=.agg (Qe.c p_v).toArray) (cs:=Qe.c p_v) h trivial rfl rfl rfl ?_))
 intro b1 H2 h
 refine Za (Za (GL.nil (Zo (Zf (Yl h fun x3 h=>?_)))))
 refine Zi (.bool ((x3:Int) == 0)) (Zm ?_)
 obtain ⟨J6,h,hR7⟩:=h
 refine GL.cut (α:=Bool) 4 J6 (fun b5=>[(20,.bool b5),(1,pv (some (b1,0)))]) ?_ ?_
 rcases h.em with ⟨u8,h⟩ | ⟨u8,h⟩
 refine Zu u8 Yf ?_
 obtain ⟨x9,v10,h⟩:=h
 refine Zu u8 (Yo v10) (Zu u8 (OV.sbin (a:=x9) (b:=([]:Str)) (v:=.bool (x9 == ([]:Str))) rfl rfl rfl) (Zt u8 ?_))
 exact Yj I3 (x9 == ([]:Str)) h
 refine Zk u8 (Zk u8 (Zk u8 (Zn u8 ?_)))
 exact Yj I3 false h
 intro b5 H11 h
 replace h:=hR7 b5 H11 h
 refine Zm ?_
 obtain ⟨J13,h,hR14⟩:=h
 refine GL.cut (α:=Bool) 5 J13 (fun b12=>[(26,.bool b12),(1,pv (some (b1,0)))]) ?_ ?_
 rcases h.em with ⟨u15,h⟩ | ⟨u15,h⟩
 refine Zu u15 Yf ?_
 obtain ⟨x16,v17,h⟩:=h
 refine Zu u15 (Yo v17) (Zu u15 (OV.lenSl rfl rfl) (Zu u15 (OV.ibin (v:=.bool (((Sl.len x16:Int):Int) == 0)) rfl rfl rfl) (Zt u15 ?_)))
 exact Yj I3 (((Sl.len x16:Int):Int) == 0) h
 refine Zk u15 (Zk u15 (Zk u15 (Zk u15 (Zn u15 ?_))))
 exact Yj I3 false h
 intro b12 H18 h
 replace h:=hR14 b12 H18 h
 refine Za (Za (GL.nil ?_))
 obtain ⟨J19,h,hR22⟩:=h
 refine GC.join (α:=Bool×Bool) J19 (fun x20=>[(2,.bool x20.1),(3,.bool x20.2),(1,pv (some (b1,0)))]) ?_ ?_
 refine Zo (Zf (Yl h fun x23 h=>?_))
 refine GL.nil (GC.block (Zo (Zi (.bool ((x23:Int) == 1)) (Za (GL.nil (Yd h (fun u25 h=>?_) fun u25 h=>?_))))))
 refine GC.region (Zf (Yl h fun x26 h=>?_))
 refine Zi (.bool ((x26:Int) == 0)) (Zm ?_)
 obtain ⟨J29,h,hR30⟩:=h
 refine GL.cut (α:=Bool) 4 J29 (fun b28=>[(38,.bool b28),(1,pv (some (b1,0))),(3,.bool true)]) ?_ ?_
 rcases h.em with ⟨u31,h⟩ | ⟨u31,h⟩
 refine Zk u31 (Zk u31 (Zk u31 (Zt u31 ?_)))
 exact Yj I3 true h
 refine Zu u31 Yf ?_
 obtain ⟨x32,v33,h⟩:=h
 refine Zu u31 (Yo v33) (Zu u31 (OV.ibin (v:=.bool ((x32:Int) == 1)) rfl rfl rfl) (Zn u31 ?_))
 exact Yj I3 ((x32:Int) == 1) h
 intro b28 H34 h
 replace h:=hR30 b28 H34 h
 refine Zm ?_
 obtain ⟨J36,h,hR37⟩:=h
 refine GL.cut (α:=Bool) 4 J36 (fun b35=>[(43,.bool b35),(1,pv (some (b1,0))),(3,.bool true)]) ?_ ?_
 rcases h.em with ⟨u38,h⟩ | ⟨u38,h⟩
 refine Zu u38 Yf ?_
 obtain ⟨x39,v40,h⟩:=h
 refine Zu u38 (Yo v40) (Zu u38 (OV.sbin (a:=x39) (b:=([]:Str)) (v:=.bool (x39 == ([]:Str))) rfl rfl rfl) (Zt u38 ?_))
 exact Yj I3 (x39 == ([]:Str)) h
 refine Zk u38 (Zk u38 (Zk u38 (Zn u38 ?_)))
 exact Yj I3 false h
 intro b35 H41 h
 replace h:=hR37 b35 H41 h
 refine Zm ?_
 obtain ⟨J43,h,hR44⟩:=h
 refine GL.cut (α:=Bool) 5 J43 (fun b42=>[(49,.bool b42),(1,pv (some (b1,0))),(3,.bool true)]) ?_ ?_
 rcases h.em with ⟨u45,h⟩ | ⟨u45,h⟩
 refine Zu u45 Yf ?_
 obtain ⟨x46,v47,h⟩:=h
 refine Zu u45 (Yo v47) (Zu u45 (OV.lenSl rfl rfl) (Zu u45 (OV.ibin (v:=.bool (((Sl.len x46:Int):Int) == 0)) rfl rfl rfl) (Zt u45 ?_)))
 exact Yj I3 (((Sl.len x46:Int):Int) == 0) h
 refine Zk u45 (Zk u45 (Zk u45 (Zk u45 (Zn u45 ?_))))
 exact Yj I3 false h
 intro b42 H48 h
 replace h:=hR44 b42 H48 h
 refine Za ?_
 exact Yj I3 (b42,true) h
 refine Zo (Zi (.bool ((x23:Int) == 2)) (Za (GL.nil (Yd h (fun u49 h=>?_) fun u49 h=>?_))))
 refine GC.region (Zf (Yl h fun x50 h=>?_))
 refine Zv (OV.sbin (a:=x50) (b:=([]:Str)) (v:=.bool (x50 == ([]:Str))) rfl rfl rfl) (Zm ?_)
 obtain ⟨J53,h,hR54⟩:=h
 refine GL.cut (α:=Bool) 5 J53 (fun b52=>[(60,.bool b52),(1,pv (some (b1,0))),(3,.bool true)]) ?_ ?_
 rcases h.em with ⟨u55,h⟩ | ⟨u55,h⟩
 refine Zu u55 Yf ?_
 obtain ⟨x56,v57,h⟩:=h
 refine Zu u55 (Yo v57) (Zu u55 (OV.lenSl rfl rfl) (Zu u55 (OV.ibin (v:=.bool (((Sl.len x56:Int):Int) == 0)) rfl rfl rfl) (Zt u55 ?_)))
 exact Yj I3 (((Sl.len x56:Int):Int) == 0) h
 refine Zk u55 (Zk u55 (Zk u55 (Zk u55 (Zn u55 ?_))))
 exact Yj I3 false h
 intro b52 H58 h
 replace h:=hR54 b52 H58 h
 refine Za ?_
 exact Yj I3 (b52,true) h
 refine Zo (Zi (.bool ((x23:Int) == 3)) (Za (GL.nil (Yd h (fun u59 h=>?_) fun u59 h=>?_))))
 refine Zo (Zf (Yl h fun x60 h=>?_))
 refine Zc h Qnu ?_
 rintro _ H64 ⟨r62,r63,rfl,h⟩
 refine Zm (Yv (.int .i64 r62) rfl rfl (Yv (.bool r63) rfl rfl (Za (Za (GL.nil (GC.region (Zm (Zm ?_))))))))
 obtain ⟨J66,h,hR67⟩:=h
 refine GL.cut (α:=Bool) 4 J66 (fun b65=>[(74,.bool b65),(1,pv (some (b1,0))),(4,.int .i64 r62)]) ?_ ?_
 rcases h.em with ⟨u68,h⟩ | ⟨u68,h⟩
 refine Zu u68 Yf ?_
 obtain ⟨x69,v70,h⟩:=h
 refine Zu u68 (Yo v70) (Zu u68 (OV.ibin (v:=.bool ((x69:Int) == 0)) rfl rfl rfl) (Zt u68 ?_))
 exact Yj I3 ((x69:Int) == 0) h
 refine Zk u68 (Zk u68 (Zk u68 (Zn u68 ?_)))
 exact Yj I3 false h
 intro b65 H71 h
 replace h:=hR67 b65 H71 h
 refine Zm ?_
 obtain ⟨J73,h,hR74⟩:=h
 refine GL.cut (α:=Bool) 5 J73 (fun b72=>[(80,.bool b72),(1,pv (some (b1,0))),(4,.int .i64 r62)]) ?_ ?_
 rcases h.em with ⟨u75,h⟩ | ⟨u75,h⟩
 refine Zu u75 Yf ?_
 obtain ⟨x76,v77,h⟩:=h
 refine Zu u75 (Yo v77) (Zu u75 (OV.lenSl rfl rfl) (Zu u75 (OV.ibin (v:=.bool (((Sl.len x76:Int):Int) == 0)) rfl rfl rfl) (Zt u75 ?_)))
 exact Yj I3 (((Sl.len x76:Int):Int) == 0) h
 refine Zk u75 (Zk u75 (Zk u75 (Zk u75 (Zn u75 ?_))))
 exact Yj I3 false h
 intro b72 H78 h
 replace h:=hR74 b72 H78 h
 refine Zm (Zi (.bool (decide ((r62:Int)≤200))) (Za (Za ?_)))
 exact Yj I3 (b72,(decide ((r62:Int)≤200))) h
 refine Zo (Zi (.bool ((x23:Int) == 4)) (Za (GL.nil (Yd h (fun u79 h=>?_) fun u79 h=>?_))))
 obtain ⟨J80,h,hR83⟩:=h
 refine GC.meet (α:=Bool×Bool) J80 (fun x81=>[(2,.bool x81.1),(3,.bool x81.2),(1,pv (some (b1,0)))]) ?_ ?_
 obtain ⟨Hs84,hle85,h⟩:=h
 refine GC.any (Hs:=Hs84) (by kernel_rfl) hle85 (Zp 0 rfl Yf ?_)
 obtain ⟨x86,v87,h⟩:=h
 refine Zp 1 rfl (Yo v87) (Zp 2 rfl (OV.ibin (v:=.bool ((x86:Int) == 0)) rfl rfl rfl) (Zp 3 rfl Ym (Zp 9 rfl Yf ?_)))
 obtain ⟨x88,v89,h⟩:=h
 refine Zp 10 rfl (Yo v89) (Zp 11 rfl (OV.lenStr rfl rfl) (Zp 12 rfl (OV.ibin (v:=.bool (decide (((List.length x88:Int):Int)≤4096))) rfl rfl rfl) ?_))
 rcases h.em with ⟨u90,h⟩ | ⟨u90,h⟩
 refine Zg 4 rfl (Yt u90) Yf ?_
 obtain ⟨x91,v92,h⟩:=h
 refine Zg 5 rfl (Yt u90) (Yo v92) (Zg 6 rfl (Yt u90) (OV.lenSl rfl rfl) (Zg 7 rfl (Yt u90) (OV.ibin (v:=.bool (((Sl.len x91:Int):Int) == 0)) rfl rfl rfl) (Zp 8 rfl (OV.pickT rfl u90 rfl) (Zp 13 rfl Ya (Zp 14 rfl Ya (GA.done (by kernel_rfl) ?_))))))
 exact Yj I3 ((((Sl.len x91:Int):Int) == 0),(decide (((List.length x88:Int):Int)≤4096))) h
 refine Zj 4 rfl (Yw u90) (Zj 5 rfl (Yw u90) (Zj 6 rfl (Yw u90) (Zj 7 rfl (Yw u90) (Zp 8 rfl (OV.pickF rfl u90 rfl) (Zp 13 rfl Ya (Zp 14 rfl Ya (GA.done (by kernel_rfl) ?_)))))))
 exact Yj I3 (false,(decide (((List.length x88:Int):Int)≤4096))) h
 intro x81 H82 h
 replace h:=hR83 x81 H82 h
 exact Yj I3 (x81.1,x81.2) h
 refine Zo (Zi (.bool ((x23:Int) == 5)) (Za (GL.nil (Yd h (fun u93 h=>?_) fun u93 h=>?_))))
 obtain ⟨J94,h,hR97⟩:=h
 refine GC.meet (α:=Bool×Bool) J94 (fun x95=>[(2,.bool x95.1),(3,.bool x95.2),(1,pv (some (b1,0)))]) ?_ ?_
 obtain ⟨Hs98,hle99,h⟩:=h
 refine GC.any (Hs:=Hs98) (by kernel_rfl) hle99 (Zp 0 rfl Yf ?_)
 obtain ⟨x100,v101,h⟩:=h
 refine Zp 1 rfl (Yo v101) (Zp 2 rfl (OV.ibin (v:=.bool ((x100:Int) == 0)) rfl rfl rfl) (Zp 3 rfl Ym (Zp 14 rfl Yf ?_)))
 obtain ⟨x102,v103,h⟩:=h
 refine Zp 15 rfl (Yo v103) (Zp 16 rfl (OV.lenSl rfl rfl) (Zp 17 rfl (OV.ibin (v:=.bool (decide (((Sl.len x102:Int):Int)≤16))) rfl rfl rfl) ?_))
 rcases h.em with ⟨u104,h⟩ | ⟨u104,h⟩
 refine Zg 4 rfl (Yt u104) Yf ?_
 obtain ⟨x105,v106,h⟩:=h
 refine Zg 5 rfl (Yt u104) (Yo v106) (Zg 6 rfl (Yt u104) (OV.sbin (a:=x105) (b:=([]:Str)) (v:=.bool (x105 == ([]:Str))) rfl rfl rfl) (Zp 7 rfl (OV.pickT rfl u104 rfl) (Zp 8 rfl Ym ?_)))
 rcases h.em with ⟨u107,h⟩ | ⟨u107,h⟩
 refine Zg 9 rfl (Yt u107) Yf ?_
 obtain ⟨x108,v109,h⟩:=h
 refine Zg 10 rfl (Yt u107) (Yo v109) (Zg 11 rfl (Yt u107) (OV.lenSl rfl rfl) (Zg 12 rfl (Yt u107) (OV.ibin (v:=.bool (((Sl.len x108:Int):Int) != 1)) rfl rfl rfl) (Zp 13 rfl (OV.pickT rfl u107 rfl) (Zp 18 rfl Ya (Zp 19 rfl Ya (GA.done (by kernel_rfl) ?_))))))
 exact Yj I3 ((((Sl.len x108:Int):Int) != 1),(decide (((Sl.len x102:Int):Int)≤16))) h
 refine Zj 9 rfl (Yw u107) (Zj 10 rfl (Yw u107) (Zj 11 rfl (Yw u107) (Zj 12 rfl (Yw u107) (Zp 13 rfl (OV.pickF rfl u107 rfl) (Zp 18 rfl Ya (Zp 19 rfl Ya (GA.done (by kernel_rfl) ?_)))))))
 exact Yj I3 (false,(decide (((Sl.len x102:Int):Int)≤16))) h
 refine Zj 4 rfl (Yw u104) (Zj 5 rfl (Yw u104) (Zj 6 rfl (Yw u104) (Zp 7 rfl (OV.pickF rfl u104 rfl) (Zp 8 rfl Ym (Zj 9 rfl (Yw rfl) (Zj 10 rfl (Yw rfl) (Zj 11 rfl (Yw rfl) (Zj 12 rfl (Yw rfl) (Zp 13 rfl (OV.pickF rfl rfl rfl) (Zp 18 rfl Ya (Zp 19 rfl Ya (GA.done (by kernel_rfl) ?_))))))))))))
 exact Yj I3 (false,(decide (((Sl.len x102:Int):Int)≤16))) h
 intro x95 H96 h
 replace h:=hR97 x95 H96 h
 exact Yj I3 (x95.1,x95.2) h
 refine Zo (Zi (.bool ((x23:Int) == 6)) (Za (GL.nil (Yd h (fun u110 h=>?_) fun u110 h=>?_))))
 refine Zo (Zf (Yl h fun x111 h=>?_))
 refine Zc h QgY ?_
 rintro _ H116 ⟨r113,r114,r115,rfl,h⟩
 refine Zm (Yv (sv r113) rfl rfl (Yv (sv r114) rfl rfl (Yv (.bool r115) rfl rfl (Za (Za (Za (GL.nil ?_)))))))
 obtain ⟨J117,h,hR120⟩:=h
 refine GC.meet (α:=Bool×Bool) J117 (fun x118=>[(2,.bool x118.1),(3,.bool x118.2),(1,pv (some (b1,0)))]) ?_ ?_
 obtain ⟨Hs121,hle122,h⟩:=h
 refine GC.any (Hs:=Hs121) (by kernel_rfl) hle122 (Zp 0 rfl Yf ?_)
 obtain ⟨x123,v124,h⟩:=h
 refine Zp 1 rfl (Yo v124) (Zp 2 rfl (OV.ibin (v:=.bool ((x123:Int) == 0)) rfl rfl rfl) (Zp 3 rfl Ym (Zp 28 rfl Yf ?_)))
 obtain ⟨x125,v126,h⟩:=h
 refine Zp 29 rfl (Yo v126) (Zp 30 rfl (OV.lenSl rfl rfl) (Zp 31 rfl (OV.ibin (v:=.bool (decide (((Sl.len x125:Int):Int)≤8))) rfl rfl rfl) ?_))
 rcases h.em with ⟨u127,h⟩ | ⟨u127,h⟩
 refine Zg 4 rfl (Yt u127) Ym (GA.eff 5 rfl (by kernel_rfl) (GL.call h (Yt u127) rfl Qlq (vs:=[sv r113]) rfl ?_))
 rintro _ H130 ⟨r129,rfl,h⟩
 obtain ⟨hle128,h⟩:=h
 refine GA.back hle128 (Zp 6 rfl (OV.pickT rfl u127 rfl) (Zp 7 rfl Ym ?_))
 rcases h.em with ⟨u131,h⟩ | ⟨u131,h⟩
 refine Zg 8 rfl (Yt u131) Ym (Zg 9 rfl (Yt u131) Ym ?_)
 rcases h.em with ⟨u132,h⟩ | ⟨u132,h⟩
 refine Zg 10 rfl (Yt u132) Ym (GA.eff 11 rfl (by kernel_rfl) (GL.call h (Yt u132) rfl Qlq (vs:=[sv r114]) rfl ?_))
 rintro _ H135 ⟨r134,rfl,h⟩
 obtain ⟨hle133,h⟩:=h
 refine GA.back hle133 (Zg 12 rfl (Yt u131) (OV.pickT rfl u132 rfl) (Zg 13 rfl (Yt u131) Ym ?_))
 rcases h.em with ⟨u136,h⟩ | ⟨u136,h⟩
 refine Zj 14 rfl (Yw u136) (Zj 15 rfl (Yw u136) (Zj 16 rfl (Yw u136) (Zj 17 rfl ⟨_,rfl,.inr rfl⟩ (Zj 18 rfl ⟨_,rfl,.inr rfl⟩ (Zj 19 rfl ⟨_,rfl,.inr rfl⟩ (Zj 20 rfl (Yw u136) (Zj 21 rfl (Yw u136) (Zj 22 rfl ⟨_,rfl,.inr rfl⟩ (Zj 23 rfl ⟨_,rfl,.inr rfl⟩ (Zj 24 rfl ⟨_,rfl,.inr rfl⟩ (Zj 25 rfl (Yw u136) (Zg 26 rfl (Yt u131) (OV.pickT rfl u136 rfl) (Zp 27 rfl (OV.pickT rfl u131 rfl) (Zp 32 rfl Ya (Zp 33 rfl Ya (GA.done (by kernel_rfl) ?_))))))))))))))))
 exact Yj I3 (true,(decide (((Sl.len x125:Int):Int)≤8))) h
 refine Zg 14 rfl (Yt u136) Ym (Zg 15 rfl (Yt u136) (OV.not rfl) (Zg 16 rfl (Yt u136) Ym ?_))
 rcases h.em with ⟨u137,h⟩ | ⟨u137,h⟩
 refine Zg 17 rfl (Yt u137) Yf ?_
 obtain ⟨x138,v139,h⟩:=h
 refine Zg 18 rfl (Yt u137) (Yo v139) (Zg 19 rfl (Yt u137) (OV.sbin (a:=x138) (b:=([116,114,117,101]:Str)) (v:=.bool (!(x138 == ([116,114,117,101]:Str)))) rfl rfl rfl) (Zg 20 rfl (Yt u136) (OV.pickT rfl u137 rfl) (Zg 21 rfl (Yt u136) Ym ?_)))
 rcases h.em with ⟨u140,h⟩ | ⟨u140,h⟩
 refine Zg 22 rfl (Yt u140) Yf ?_
 obtain ⟨x141,v142,h⟩:=h
 refine Zg 23 rfl (Yt u140) (Yo v142) (Zg 24 rfl (Yt u140) (OV.sbin (a:=x141) (b:=([102,97,108,115,101]:Str)) (v:=.bool (!(x141 == ([102,97,108,115,101]:Str)))) rfl rfl rfl) (Zg 25 rfl (Yt u136) (OV.pickT rfl u140 rfl) (Zg 26 rfl (Yt u131) (OV.pickF rfl u136 rfl) (Zp 27 rfl (OV.pickT rfl u131 rfl) (Zp 32 rfl Ya (Zp 33 rfl Ya (GA.done (by kernel_rfl) ?_)))))))
 exact Yj I3 ((!(x141 == ([102,97,108,115,101]:Str))),(decide (((Sl.len x125:Int):Int)≤8))) h
 refine Zj 22 rfl (Yw u140) (Zj 23 rfl (Yw u140) (Zj 24 rfl (Yw u140) (Zg 25 rfl (Yt u136) (OV.pickF rfl u140 rfl) (Zg 26 rfl (Yt u131) (OV.pickF rfl u136 rfl) (Zp 27 rfl (OV.pickT rfl u131 rfl) (Zp 32 rfl Ya (Zp 33 rfl Ya (GA.done (by kernel_rfl) ?_))))))))
 exact Yj I3 (false,(decide (((Sl.len x125:Int):Int)≤8))) h
 refine Zj 17 rfl (Yw u137) (Zj 18 rfl (Yw u137) (Zj 19 rfl (Yw u137) (Zg 20 rfl (Yt u136) (OV.pickF rfl u137 rfl) (Zg 21 rfl (Yt u136) Ym (Zj 22 rfl (Yw rfl) (Zj 23 rfl (Yw rfl) (Zj 24 rfl (Yw rfl) (Zg 25 rfl (Yt u136) (OV.pickF rfl rfl rfl) (Zg 26 rfl (Yt u131) (OV.pickF rfl u136 rfl) (Zp 27 rfl (OV.pickT rfl u131 rfl) (Zp 32 rfl Ya (Zp 33 rfl Ya (GA.done (by kernel_rfl) ?_)))))))))))))
 exact Yj I3 (false,(decide (((Sl.len x125:Int):Int)≤8))) h
 refine Zj 10 rfl (Yw u132) (Zj 11 rfl (Yw u132) (Zg 12 rfl (Yt u131) (OV.pickF rfl u132 rfl) (Zg 13 rfl (Yt u131) Ym (Zg 14 rfl (Yt rfl) Ym (Zg 15 rfl (Yt rfl) (OV.not rfl) (Zg 16 rfl (Yt rfl) Ym ?_))))))
 rcases h.em with ⟨u143,h⟩ | ⟨u143,h⟩
 refine Zg 17 rfl (Yt u143) Yf ?_
 obtain ⟨x144,v145,h⟩:=h
 refine Zg 18 rfl (Yt u143) (Yo v145) (Zg 19 rfl (Yt u143) (OV.sbin (a:=x144) (b:=([116,114,117,101]:Str)) (v:=.bool (!(x144 == ([116,114,117,101]:Str)))) rfl rfl rfl) (Zg 20 rfl (Yt rfl) (OV.pickT rfl u143 rfl) (Zg 21 rfl (Yt rfl) Ym ?_)))
 rcases h.em with ⟨u146,h⟩ | ⟨u146,h⟩
 refine Zg 22 rfl (Yt u146) Yf ?_
 obtain ⟨x147,v148,h⟩:=h
 refine Zg 23 rfl (Yt u146) (Yo v148) (Zg 24 rfl (Yt u146) (OV.sbin (a:=x147) (b:=([102,97,108,115,101]:Str)) (v:=.bool (!(x147 == ([102,97,108,115,101]:Str)))) rfl rfl rfl) (Zg 25 rfl (Yt rfl) (OV.pickT rfl u146 rfl) (Zg 26 rfl (Yt u131) (OV.pickF rfl rfl rfl) (Zp 27 rfl (OV.pickT rfl u131 rfl) (Zp 32 rfl Ya (Zp 33 rfl Ya (GA.done (by kernel_rfl) ?_)))))))
 exact Yj I3 ((!(x147 == ([102,97,108,115,101]:Str))),(decide (((Sl.len x125:Int):Int)≤8))) h
 refine Zj 22 rfl (Yw u146) (Zj 23 rfl (Yw u146) (Zj 24 rfl (Yw u146) (Zg 25 rfl (Yt rfl) (OV.pickF rfl u146 rfl) (Zg 26 rfl (Yt u131) (OV.pickF rfl rfl rfl) (Zp 27 rfl (OV.pickT rfl u131 rfl) (Zp 32 rfl Ya (Zp 33 rfl Ya (GA.done (by kernel_rfl) ?_))))))))
 exact Yj I3 (false,(decide (((Sl.len x125:Int):Int)≤8))) h
 refine Zj 17 rfl (Yw u143) (Zj 18 rfl (Yw u143) (Zj 19 rfl (Yw u143) (Zg 20 rfl (Yt rfl) (OV.pickF rfl u143 rfl) (Zg 21 rfl (Yt rfl) Ym (Zj 22 rfl (Yw rfl) (Zj 23 rfl (Yw rfl) (Zj 24 rfl (Yw rfl) (Zg 25 rfl (Yt rfl) (OV.pickF rfl rfl rfl) (Zg 26 rfl (Yt u131) (OV.pickF rfl rfl rfl) (Zp 27 rfl (OV.pickT rfl u131 rfl) (Zp 32 rfl Ya (Zp 33 rfl Ya (GA.done (by kernel_rfl) ?_)))))))))))))
 exact Yj I3 (false,(decide (((Sl.len x125:Int):Int)≤8))) h
 refine Zj 8 rfl (Yw u131) (Zj 9 rfl (Yw u131) (Zj 10 rfl ⟨_,rfl,.inr rfl⟩ (Zj 11 rfl ⟨_,rfl,.inr rfl⟩ (Zj 12 rfl (Yw u131) (Zj 13 rfl (Yw u131) (Zj 14 rfl ⟨_,rfl,.inr rfl⟩ (Zj 15 rfl ⟨_,rfl,.inr rfl⟩ (Zj 16 rfl ⟨_,rfl,.inr rfl⟩ (Zj 17 rfl ⟨_,rfl,.inr rfl⟩ (Zj 18 rfl ⟨_,rfl,.inr rfl⟩ (Zj 19 rfl ⟨_,rfl,.inr rfl⟩ (Zj 20 rfl ⟨_,rfl,.inr rfl⟩ (Zj 21 rfl ⟨_,rfl,.inr rfl⟩ (Zj 22 rfl ⟨_,rfl,.inr rfl⟩ (Zj 23 rfl ⟨_,rfl,.inr rfl⟩ (Zj 24 rfl ⟨_,rfl,.inr rfl⟩ (Zj 25 rfl ⟨_,rfl,.inr rfl⟩ (Zj 26 rfl (Yw u131) (Zp 27 rfl (OV.pickF rfl u131 rfl) (Zp 32 rfl Ya (Zp 33 rfl Ya (GA.done (by kernel_rfl) ?_))))))))))))))))))))))
 exact Yj I3 (false,(decide (((Sl.len x125:Int):Int)≤8))) h
 refine Zj 4 rfl (Yw u127) (Zj 5 rfl (Yw u127) (Zp 6 rfl (OV.pickF rfl u127 rfl) (Zp 7 rfl Ym (Zj 8 rfl (Yw rfl) (Zj 9 rfl (Yw rfl) (Zj 10 rfl ⟨_,rfl,.inr rfl⟩ (Zj 11 rfl ⟨_,rfl,.inr rfl⟩ (Zj 12 rfl (Yw rfl) (Zj 13 rfl (Yw rfl) (Zj 14 rfl ⟨_,rfl,.inr rfl⟩ (Zj 15 rfl ⟨_,rfl,.inr rfl⟩ (Zj 16 rfl ⟨_,rfl,.inr rfl⟩ (Zj 17 rfl ⟨_,rfl,.inr rfl⟩ (Zj 18 rfl ⟨_,rfl,.inr rfl⟩ (Zj 19 rfl ⟨_,rfl,.inr rfl⟩ (Zj 20 rfl ⟨_,rfl,.inr rfl⟩ (Zj 21 rfl ⟨_,rfl,.inr rfl⟩ (Zj 22 rfl ⟨_,rfl,.inr rfl⟩ (Zj 23 rfl ⟨_,rfl,.inr rfl⟩ (Zj 24 rfl ⟨_,rfl,.inr rfl⟩ (Zj 25 rfl ⟨_,rfl,.inr rfl⟩ (Zj 26 rfl (Yw rfl) (Zp 27 rfl (OV.pickF rfl rfl rfl) (Zp 32 rfl Ya (Zp 33 rfl Ya (GA.done (by kernel_rfl) ?_))))))))))))))))))))))))))
 exact Yj I3 (false,(decide (((Sl.len x125:Int):Int)≤8))) h
 intro x118 H119 h
 replace h:=hR120 x118 H119 h
 exact Yj I3 (x118.1,x118.2) h
 refine GC.region (Za ?_)
 exact Yj I3 (false,true) h
 intro x20 H21 h
 replace h:=hR22 x20 H21 h
 refine GC.seq (Zo (Zf (Yl h fun x149 h=>?_)))
 refine Zq (Zm (GL.nil (GC.block (Yp h (fun x151=>[(2,.bool x151.1),(3,.bool x151.2.1),(162,.int .i64 x151.2.2),(160,slv x149),(161,.int .i64 (Sl.len x149:Int))]) ?_))))
 intro x151 H153 J152 h
 refine Zo (Zi (.bool (decide ((x151.2.2:Int) < (Sl.len x149:Int)))) (GL.nil (GC.seq (Yd h (fun u154 h=>?_) fun u154 h=>?_))))
 refine GC.skip (GC.seq (GC.block (Zo (Yx h fun p155 h=>?_))))
 obtain ⟨x160,v161,h⟩:=h
 refine Zv (OV.loadT rfl rfl rfl v161) (GL.alloc (cs:=Qe.c Qe.zero) h trivial rfl rfl rfl ?_)
 intro b162 H163 h
 refine GL.storeT (p:=(b162,0)) (vs:=Qe.c x160) h trivial rfl rfl rfl rfl ?_
 intro H164 h
 refine GL.nil (Zo ?_)
 obtain ⟨x165,v166,h⟩:=h
 refine Zv (OV.loadT rfl rfl rfl v166) (Zc h Qgw ?_)
 rintro _ H169 ⟨r167,r168,rfl,h⟩
 refine Zm (Yv (.bool r167) rfl rfl (Yv (.bool r168) rfl rfl (Za (Za (GL.nil (GC.region (Zm (Zm (GL.cut0 2 [(174,.bool (x151.1 && r167)),(3,.bool x151.2.1),(12,.bool r168),(160,slv x149),(161,.int .i64 (Sl.len x149:Int)),(162,.int .i64 x151.2.2)] ?_ ?_)))))))))
 rcases Bool.eq_false_or_eq_true x151.1 with u170 | u170
 refine Zu u170 Ym (Zt u170 ?_)
 exact GL.jump0 I3 () rfl ⟨(by rw [u170]; rfl),rfl,rfl,rfl,rfl,rfl,trivial⟩
 refine Zk u170 (Zn u170 ?_)
 exact GL.jump0 I3 () rfl ⟨(by rw [u170]; rfl),rfl,rfl,rfl,rfl,rfl,trivial⟩
 refine Zm (Zm (GL.cut0 2 [(178,.bool (x151.2.1 && r168)),(160,slv x149),(161,.int .i64 (Sl.len x149:Int)),(162,.int .i64 x151.2.2),(174,.bool (x151.1 && r167))] ?_ ?_))
 rcases Bool.eq_false_or_eq_true x151.2.1 with u171 | u171
 refine Zu u171 Ym (Zt u171 ?_)
 exact GL.jump0 I3 () rfl ⟨(by rw [u171]; rfl),rfl,rfl,rfl,rfl,trivial⟩
 refine Zk u171 (Zn u171 ?_)
 exact GL.jump0 I3 () rfl ⟨(by rw [u171]; rfl),rfl,rfl,rfl,rfl,trivial⟩
 refine Za (Za (GL.nil_to I3 (GC.region (Zi (.int .i64 (w .i64 (x151.2.2+1))) (Zm ?_)))))
 exact Yj I3 ((x151.1 && r167),(x151.2.1 && r168),(w .i64 (x151.2.2+1))) h
 refine GC.exit_to I3 (Zo (Zm (Zm (Za (Za (GL.nil ?_))))))
 exact Y2 I3 ⟨x151.1,x151.2.1,rfl,h⟩
def Qfg (C:Ctx) (p_w:Option (Nat×Nat)) (p_l:Sl) (p_between:Str) (p_write:Value) (K:Heap→Prop) (H:Heap):Prop:=
 lp (α:=Int) 0 H (fun x1 J2 H3=>
 ift (decide ((x1:Int) < (Sl.len p_l:Int)))
 (ixa p_l x1 fun p5=>
 ldT H3 Qd.c (p5.1,p5.2+(x1:Int).toNat*2) fun x10=>
 nw (Qd.c Qd.zero) (fun b12 H13=>
 stT (b12,0) (Qd.c x10) (fun H14=>
 jn (α:=Unit) (fun x16 H17=>
 ldT H17 Qd.c (b12,0) fun x25=>
 callU Tryz.prog C p_write [.agg (Qd.c x25).toArray] H17 (fun v H27=>v=.tuple #[]∧
 J2 (w .i64 (x1+1)) H27))
 (fun J15=>ift (decide ((x1:Int) > 0))
 (nck p_w fun p20=>
 Ql C (some (p20.1,p20.2+0)) p_between (fun r22 r23 H24=>
 J15 () H24) H14)
 (J15 () H14))) H13) H3)
 (K H3))
theorem Qje (C p_w p_l p_between p_write K H) (h:Qfg C p_w p_l p_between p_write K H):Qdw C p_w p_l p_between p_write K H:=by
 refine Ye Tryz.func247 rfl Tryz.ntmps247 [(0,pv p_w),(1,slv p_l),(2,sv p_between),(3,p_write)] (Zo (Zm (Zq (Zm (GL.nil (GC.block (Yp h (fun x1=>[(12,.int .i64 x1),(0,pv p_w),(2,sv p_between),(3,p_write),(10,slv p_l),(11,.int .i64 (Sl.len p_l:Int))]) ?_)))))))
 intro x1 H3 J2 h
 refine Zo (Zi (.bool (decide ((x1:Int) < (Sl.len p_l:Int)))) (GL.nil (GC.seq (Yd h (fun u4 h=>?_) fun u4 h=>?_))))
 refine GC.skip (GC.seq (GC.block (Zo (Zm (Yx h fun p5 h=>?_)))))
 obtain ⟨x10,v11,h⟩:=h
 refine Zv (OV.loadT rfl rfl rfl v11) (GL.alloc (cs:=Qd.c Qd.zero) h trivial rfl rfl rfl ?_)
 intro b12 H13 h
 refine Za (GL.storeT (p:=(b12,0)) (vs:=Qd.c x10) h trivial rfl rfl rfl rfl ?_)
 intro H14 h
 refine GL.nil ?_
 obtain ⟨J15,h,hR18⟩:=h
 refine GC.join (α:=Unit) J15 (fun _=>[(0,pv p_w),(2,sv p_between),(3,p_write),(9,pv (some (b12,0))),(10,slv p_l),(11,.int .i64 (Sl.len p_l:Int)),(12,.int .i64 x1)]) ?_ ?_
 refine Zo (Zm (Zi (.bool (decide ((x1:Int) > 0))) (GL.nil (Yd h (fun u19 h=>?_) fun u19 h=>?_))))
 refine GC.region (Zm ?_)
 obtain ⟨p20,hp21,h⟩:=h
 refine Zv (OV.nilCheck (q:=p_w) rfl hp21) (Zf (Zm (Zc h Qn ?_)))
 rintro _ H24 ⟨r22,r23,rfl,h⟩
 exact Yj I3 () h
 exact Yk I3 () h
 intro x16 H17 h
 replace h:=hR18 x16 H17 h
 refine GC.region (Zm ?_)
 obtain ⟨x25,v26,h⟩:=h
 refine Zv (OV.loadT rfl rfl rfl v26) (GL.callU (xv:=p_write) (vs:=[.agg (Qd.c x25).toArray]) h trivial rfl rfl rfl ?_)
 rintro _ H27 ⟨rfl,h⟩
 refine GL.nil_to I3 (GC.region (Zi (.int .i64 (w .i64 (x1+1))) (Zm ?_)))
 exact Yj I3 (w .i64 (x1+1)) h
 exact GC.exit_ends (fun _ _ hf hs=>Qt rfl hf hs ⟨rfl,h⟩)
def Qb3 (C:Ctx) (p_b:Bool) (K:Str→Heap→Prop) (H:Heap):Prop:=
 ift p_b
 (K [116,114,117,101] H)
 (K [102,97,108,115,101] H)
theorem Qe2 (C p_b K H) (h:Qb3 C p_b K H):Qcm C p_b K H:=by
 refine Ye Tryz.func248 rfl Tryz.ntmps248 [(0,.bool p_b)] (Zo (Za (GL.nil (GC.seq (Zo (Zm (GL.nil (Yd h (fun u1 h=>?_) fun u1 h=>?_))))))))
 refine Zo (Za (GL.nil ?_))
 exact Y1 I3 ⟨[116,114,117,101],rfl,h⟩
 refine GC.skip (Zo (Za (GL.nil ?_)))
 exact Y1 I3 ⟨[102,97,108,115,101],rfl,h⟩
def QjT (C:Ctx) (p_s:Str) (K:Int→Bool→Heap→Prop) (H:Heap):Prop:=
 Qdu C p_s [45] (fun r1 H2=>
 jn (α:=Bool) (fun b3 H9=>
 jn (α:=Bool) (fun b10 H18=>
 ift b10
 (K 0 false H18)
 (K (List.length r1:Int) true H18))
 (fun J11=>ift b3
 (J11 true H9)
 (ixs r1 0 fun c14=>
 J11 ((((c14.toNat:Int):Int) == 48) && (!(p_s == ([48]:Str)))) H9)))
 (fun J4=>ift (r1 == ([]:Str))
 (J4 true H2)
 (QbH C r1 [48,49,50,51,52,53,54,55,56,57] (fun r7 H8=>
 J4 (!(r7 == ([]:Str))) H8) H2))) H
theorem QmR (C p_s K H) (h:QjT C p_s K H):QgU C p_s K H:=by
 refine Ye Tryz.func255 rfl Tryz.ntmps255 [(0,sv p_s)] (Zo (Za (Za (GL.nil (Zo (Zm (Zc h Qju ?_)))))))
 rintro _ H2 ⟨r1,rfl,h⟩
 refine Za (GL.nil (GC.seq (Zo (Zm (Zv (OV.sbin (a:=r1) (b:=([]:Str)) (v:=.bool (r1 == ([]:Str))) rfl rfl rfl) (Zm ?_))))))
 obtain ⟨J4,h,hR5⟩:=h
 refine GL.cut (α:=Bool) 4 J4 (fun b3=>[(13,.bool b3),(0,sv p_s),(4,sv r1)]) ?_ ?_
 rcases h.em with ⟨u6,h⟩ | ⟨u6,h⟩
 refine Zk u6 (Zk u6 (Zk u6 (Zt u6 ?_)))
 exact Yj I3 true h
 refine Zu u6 Ym (GL.call h (Yt u6) rfl Qnh (vs:=[sv r1,sv [48,49,50,51,52,53,54,55,56,57]]) rfl ?_)
 rintro _ H8 ⟨r7,rfl,h⟩
 refine Zu u6 (OV.sbin (a:=r7) (b:=([]:Str)) (v:=.bool (!(r7 == ([]:Str)))) rfl rfl rfl) (Zn u6 ?_)
 exact Yj I3 (!(r7 == ([]:Str))) h
 intro b3 H9 h
 replace h:=hR5 b3 H9 h
 refine Zm ?_
 obtain ⟨J11,h,hR12⟩:=h
 refine GL.cut (α:=Bool) 8 J11 (fun b10=>[(22,.bool b10),(4,sv r1)]) ?_ ?_
 rcases h.em with ⟨u13,h⟩ | ⟨u13,h⟩
 refine Zk u13 (Zk u13 (Zk u13 (Zk u13 (GL.skip ⟨_,rfl,.inr rfl⟩ rfl (GL.skip ⟨_,rfl,.inr rfl⟩ rfl (Zk u13 (Zt u13 ?_)))))))
 exact Yj I3 true h
 refine Zu u13 Ym ?_
 obtain ⟨c14,ha15,hb16,h⟩:=h
 refine Zu u13 (OV.indexStr rfl rfl rfl ha15 hb16) (Zu u13 (OV.ibin (v:=.bool (((c14.toNat:Int):Int) == 48)) rfl rfl rfl) (Zu u13 Ym (GL.cut0 3 [(21,.bool ((((c14.toNat:Int):Int) == 48) && (!(p_s == ([48]:Str))))),(4,sv r1),(14,.bool b3)] ?_ ?_)))
 rcases Zb (((c14.toNat:Int):Int) == 48) with u17 | u17
 refine Zu u17 Ym (Zu u17 (OV.sbin (a:=p_s) (b:=([48]:Str)) (v:=.bool (!(p_s == ([48]:Str)))) rfl rfl rfl) (Zu u13 (OV.pickT rfl u17 rfl) ?_))
 exact GL.jump0 I3 () rfl ⟨(by rw [u17]; rfl),rfl,rfl,trivial⟩
 refine Zk u17 (Zk u17 (Zu u13 (OV.pickF rfl u17 rfl) ?_))
 exact GL.jump0 I3 () rfl ⟨(by rw [u17]; rfl),rfl,rfl,trivial⟩
 refine Zn u13 ?_
 exact Yj I3 ((((c14.toNat:Int):Int) == 48) && (!(p_s == ([48]:Str)))) h
 intro b10 H18 h
 replace h:=hR12 b10 H18 h
 refine GL.nil (Yd h (fun u19 h=>?_) fun u19 h=>?_)
 refine Zo (Za (Za (GL.nil ?_)))
 exact Y2 I3 ⟨0,false,rfl,h⟩
 refine GC.skip (Zo (Zm (Zr (Za (Za (GL.nil ?_))))))
 exact Y2 I3 ⟨(List.length r1:Int),true,rfl,h⟩
def QlA (C:Ctx) (p_s:Str) (K:Bool→Heap→Prop) (H:Heap):Prop:=
 jn (α:=Bool) (fun b2 H9=>
 jn (α:=Bool) (fun b10 H17=>
 ift b10
 (K false H17)
 (lp (α:=Int) 0 H17 (fun x19 J20 H21=>
 ift (decide ((x19:Int) < (List.length p_s:Int)))
 (ixs p_s x19 fun c23=>
 ift (!(((((decide (((c23.toNat:Int):Int) ≥ 97)) && (decide (((c23.toNat:Int):Int)≤122))) || ((decide (((c23.toNat:Int):Int) ≥ 65)) && (decide (((c23.toNat:Int):Int)≤90)))) || ((decide (((c23.toNat:Int):Int) ≥ 48)) && (decide (((c23.toNat:Int):Int)≤57)))) || (((c23.toNat:Int):Int) == 95)))
 (K false H21)
 (J20 (w .i64 (x19+1)) H21))
 (K true H21))))
 (fun J11=>ift b2
 (J11 true H9)
 (ixs p_s 0 fun c14=>
 J11 (decide (((c14.toNat:Int):Int) > 122)) H9)))
 (fun J3=>ift ((p_s == ([]:Str)) || (decide (((List.length p_s:Int):Int) > 32)))
 (J3 true H)
 (ixs p_s 0 fun c6=>
 J3 (decide (((c6.toNat:Int):Int) < 97)) H))
theorem QoC (C p_s K H) (h:QlA C p_s K H):QdX C p_s K H:=by
 refine Ye Tryz.func256 rfl Tryz.ntmps256 [(0,sv p_s)] (Zo (Za (GL.nil (GC.seq (Zo (Zm (Zv (OV.sbin (a:=p_s) (b:=([]:Str)) (v:=.bool (p_s == ([]:Str))) rfl rfl rfl) (Zm (GL.cut0 4 [(11,.bool ((p_s == ([]:Str)) || (decide (((List.length p_s:Int):Int) > 32)))),(0,sv p_s)] ?_ ?_)))))))))
 rcases Zb (p_s == ([]:Str)) with hc1 | hc1
 refine Zk hc1 (Zk hc1 (Zk hc1 (Zt hc1 ?_)))
 exact GL.jump0 I3 () rfl ⟨(by rw [hc1]; rfl),rfl,trivial⟩
 refine Zu hc1 Ym (Zu hc1 (OV.lenStr rfl rfl) (Zu hc1 (OV.ibin (v:=.bool (decide (((List.length p_s:Int):Int) > 32))) rfl rfl rfl) (Zn hc1 ?_)))
 exact GL.jump0 I3 () rfl ⟨(by rw [hc1]; rfl),rfl,trivial⟩
 refine Zm ?_
 obtain ⟨J3,h,hR4⟩:=h
 refine GL.cut (α:=Bool) 4 J3 (fun b2=>[(16,.bool b2),(0,sv p_s)]) ?_ ?_
 rcases h.em with ⟨hc5,h⟩ | ⟨hc5,h⟩
 refine Zk hc5 (Zk hc5 (Zk hc5 (Zt hc5 ?_)))
 exact Yj I3 true h
 refine Zu hc5 Ym ?_
 obtain ⟨c6,ha7,hb8,h⟩:=h
 refine Zu hc5 (OV.indexStr rfl rfl rfl ha7 hb8) (Zu hc5 (OV.ibin (v:=.bool (decide (((c6.toNat:Int):Int) < 97))) rfl rfl rfl) (Zn hc5 ?_))
 exact Yj I3 (decide (((c6.toNat:Int):Int) < 97)) h
 intro b2 H9 h
 replace h:=hR4 b2 H9 h
 refine Zm ?_
 obtain ⟨J11,h,hR12⟩:=h
 refine GL.cut (α:=Bool) 4 J11 (fun b10=>[(21,.bool b10),(0,sv p_s)]) ?_ ?_
 rcases h.em with ⟨hc13,h⟩ | ⟨hc13,h⟩
 refine Zk hc13 (Zk hc13 (Zk hc13 (Zt hc13 ?_)))
 exact Yj I3 true h
 refine Zu hc13 Ym ?_
 obtain ⟨c14,ha15,hb16,h⟩:=h
 refine Zu hc13 (OV.indexStr rfl rfl rfl ha15 hb16) (Zu hc13 (OV.ibin (v:=.bool (decide (((c14.toNat:Int):Int) > 122))) rfl rfl rfl) (Zn hc13 ?_))
 exact Yj I3 (decide (((c14.toNat:Int):Int) > 122)) h
 intro b10 H17 h
 replace h:=hR12 b10 H17 h
 refine GL.nil (Yd h (fun hc18 h=>?_) fun hc18 h=>?_)
 refine Zo (Za (GL.nil ?_))
 exact Y1 I3 ⟨false,rfl,h⟩
 refine GC.skip (GC.seq (Zo (Zm (Zr (Zm (GL.nil (GC.block (Yp h (fun x19=>[(24,.int .i64 x19),(0,sv p_s),(23,.int .i64 (List.length p_s:Int))]) ?_))))))))
 intro x19 H21 J20 h
 refine Zo (Zi (.bool (decide ((x19:Int) < (List.length p_s:Int)))) (GL.nil (GC.seq (Yd h (fun hc22 h=>?_) fun hc22 h=>?_))))
 refine GC.skip (GC.seq (GC.block (Zo (Zm (Za (GL.nil (Zo (Zm (Zm (Ys h fun c23 h=>?_))))))))))
 refine Za (GL.nil (Zo (Zm (Zi (.bool (decide (((c23.toNat:Int):Int) ≥ 97))) (Zm (GL.cut0 3 [(35,.bool ((decide (((c23.toNat:Int):Int) ≥ 97)) && (decide (((c23.toNat:Int):Int)≤122)))),(0,sv p_s),(4,.int .u8 (c23.toNat:Int)),(23,.int .i64 (List.length p_s:Int)),(24,.int .i64 x19)] ?_ ?_))))))
 rcases Zb (decide (((c23.toNat:Int):Int) ≥ 97)) with hc26 | hc26
 refine Zu hc26 Ym (Zu hc26 (OV.ibin (v:=.bool (decide (((c23.toNat:Int):Int)≤122))) rfl rfl rfl) (Zt hc26 ?_))
 exact GL.jump0 I3 () rfl ⟨(by rw [hc26]; rfl),rfl,rfl,rfl,rfl,trivial⟩
 refine Zk hc26 (Zk hc26 (Zn hc26 ?_))
 exact GL.jump0 I3 () rfl ⟨(by rw [hc26]; rfl),rfl,rfl,rfl,rfl,trivial⟩
 refine Zm (GL.cut0 7 [(43,.bool (((decide (((c23.toNat:Int):Int) ≥ 97)) && (decide (((c23.toNat:Int):Int)≤122))) || ((decide (((c23.toNat:Int):Int) ≥ 65)) && (decide (((c23.toNat:Int):Int)≤90))))),(0,sv p_s),(4,.int .u8 (c23.toNat:Int)),(23,.int .i64 (List.length p_s:Int)),(24,.int .i64 x19)] ?_ ?_)
 rcases Zb ((decide (((c23.toNat:Int):Int) ≥ 97)) && (decide (((c23.toNat:Int):Int)≤122))) with hc27 | hc27
 refine Zk hc27 (Zk hc27 (Zk hc27 (GL.skip ⟨_,rfl,.inr rfl⟩ rfl (GL.skip ⟨_,rfl,.inr rfl⟩ rfl (Zk hc27 (Zt hc27 ?_))))))
 exact GL.jump0 I3 () rfl ⟨(by rw [hc27]; rfl),rfl,rfl,rfl,rfl,trivial⟩
 refine Zu hc27 Ym (Zu hc27 (OV.ibin (v:=.bool (decide (((c23.toNat:Int):Int) ≥ 65))) rfl rfl rfl) (Zu hc27 Ym (GL.cut0 3 [(42,.bool ((decide (((c23.toNat:Int):Int) ≥ 65)) && (decide (((c23.toNat:Int):Int)≤90)))),(0,sv p_s),(4,.int .u8 (c23.toNat:Int)),(23,.int .i64 (List.length p_s:Int)),(24,.int .i64 x19),(36,.bool ((decide (((c23.toNat:Int):Int) ≥ 97)) && (decide (((c23.toNat:Int):Int)≤122))))] ?_ ?_)))
 rcases Zb (decide (((c23.toNat:Int):Int) ≥ 65)) with hc28 | hc28
 refine Zu hc28 Ym (Zu hc28 (OV.ibin (v:=.bool (decide (((c23.toNat:Int):Int)≤90))) rfl rfl rfl) (Zu hc27 (OV.pickT rfl hc28 rfl) ?_))
 exact GL.jump0 I3 () rfl ⟨(by rw [hc28]; rfl),rfl,rfl,rfl,rfl,rfl,trivial⟩
 refine Zk hc28 (Zk hc28 (Zu hc27 (OV.pickF rfl hc28 rfl) ?_))
 exact GL.jump0 I3 () rfl ⟨(by rw [hc28]; rfl),rfl,rfl,rfl,rfl,rfl,trivial⟩
 refine Zn hc27 ?_
 exact GL.jump0 I3 () rfl ⟨(by rw [hc27]; rfl),rfl,rfl,rfl,rfl,trivial⟩
 refine Zm (GL.cut0 7 [(51,.bool ((((decide (((c23.toNat:Int):Int) ≥ 97)) && (decide (((c23.toNat:Int):Int)≤122))) || ((decide (((c23.toNat:Int):Int) ≥ 65)) && (decide (((c23.toNat:Int):Int)≤90)))) || ((decide (((c23.toNat:Int):Int) ≥ 48)) && (decide (((c23.toNat:Int):Int)≤57))))),(0,sv p_s),(4,.int .u8 (c23.toNat:Int)),(23,.int .i64 (List.length p_s:Int)),(24,.int .i64 x19)] ?_ ?_)
 rcases Zb (((decide (((c23.toNat:Int):Int) ≥ 97)) && (decide (((c23.toNat:Int):Int)≤122))) || ((decide (((c23.toNat:Int):Int) ≥ 65)) && (decide (((c23.toNat:Int):Int)≤90)))) with hc29 | hc29
 refine Zk hc29 (Zk hc29 (Zk hc29 (GL.skip ⟨_,rfl,.inr rfl⟩ rfl (GL.skip ⟨_,rfl,.inr rfl⟩ rfl (Zk hc29 (Zt hc29 ?_))))))
 exact GL.jump0 I3 () rfl ⟨(by rw [hc29]; rfl),rfl,rfl,rfl,rfl,trivial⟩
 refine Zu hc29 Ym (Zu hc29 (OV.ibin (v:=.bool (decide (((c23.toNat:Int):Int) ≥ 48))) rfl rfl rfl) (Zu hc29 Ym (GL.cut0 3 [(50,.bool ((decide (((c23.toNat:Int):Int) ≥ 48)) && (decide (((c23.toNat:Int):Int)≤57)))),(0,sv p_s),(4,.int .u8 (c23.toNat:Int)),(23,.int .i64 (List.length p_s:Int)),(24,.int .i64 x19),(44,.bool (((decide (((c23.toNat:Int):Int) ≥ 97)) && (decide (((c23.toNat:Int):Int)≤122))) || ((decide (((c23.toNat:Int):Int) ≥ 65)) && (decide (((c23.toNat:Int):Int)≤90)))))] ?_ ?_)))
 rcases Zb (decide (((c23.toNat:Int):Int) ≥ 48)) with hc30 | hc30
 refine Zu hc30 Ym (Zu hc30 (OV.ibin (v:=.bool (decide (((c23.toNat:Int):Int)≤57))) rfl rfl rfl) (Zu hc29 (OV.pickT rfl hc30 rfl) ?_))
 exact GL.jump0 I3 () rfl ⟨(by rw [hc30]; rfl),rfl,rfl,rfl,rfl,rfl,trivial⟩
 refine Zk hc30 (Zk hc30 (Zu hc29 (OV.pickF rfl hc30 rfl) ?_))
 exact GL.jump0 I3 () rfl ⟨(by rw [hc30]; rfl),rfl,rfl,rfl,rfl,rfl,trivial⟩
 refine Zn hc29 ?_
 exact GL.jump0 I3 () rfl ⟨(by rw [hc29]; rfl),rfl,rfl,rfl,rfl,trivial⟩
 refine Zm (GL.cut0 3 [(55,.bool (((((decide (((c23.toNat:Int):Int) ≥ 97)) && (decide (((c23.toNat:Int):Int)≤122))) || ((decide (((c23.toNat:Int):Int) ≥ 65)) && (decide (((c23.toNat:Int):Int)≤90)))) || ((decide (((c23.toNat:Int):Int) ≥ 48)) && (decide (((c23.toNat:Int):Int)≤57)))) || (((c23.toNat:Int):Int) == 95))),(0,sv p_s),(23,.int .i64 (List.length p_s:Int)),(24,.int .i64 x19)] ?_ ?_)
 rcases Zb ((((decide (((c23.toNat:Int):Int) ≥ 97)) && (decide (((c23.toNat:Int):Int)≤122))) || ((decide (((c23.toNat:Int):Int) ≥ 65)) && (decide (((c23.toNat:Int):Int)≤90)))) || ((decide (((c23.toNat:Int):Int) ≥ 48)) && (decide (((c23.toNat:Int):Int)≤57)))) with hc31 | hc31
 refine Zk hc31 (Zk hc31 (Zt hc31 ?_))
 exact GL.jump0 I3 () rfl ⟨(by rw [hc31]; rfl),rfl,rfl,rfl,trivial⟩
 refine Zu hc31 Ym (Zu hc31 (OV.ibin (v:=.bool (((c23.toNat:Int):Int) == 95)) rfl rfl rfl) (Zn hc31 ?_))
 exact GL.jump0 I3 () rfl ⟨(by rw [hc31]; rfl),rfl,rfl,rfl,trivial⟩
 refine Zv (OV.not rfl) (GL.nil (Yd h (fun hc32 h=>?_) fun hc32 h=>?_))
 refine Zo (Za (GL.nil ?_))
 exact Y1 I3 ⟨false,rfl,h⟩
 refine GC.skip_to I3 (GC.region (Zi (.int .i64 (w .i64 (x19+1))) (Zm ?_)))
 exact Yj I3 (w .i64 (x19+1)) h
 refine GC.exit_to I3 (Zo (Za (GL.nil ?_)))
 exact Y1 I3 ⟨true,rfl,h⟩
def Qfd (C:Ctx) (p_s:Str) (p_prefix:Str) (K:Str→Heap→Prop) (H:Heap):Prop:=
 Qbz C p_s p_prefix (fun r1 H2=>
 K r1 H2) H
theorem Qjb (C p_s p_prefix K H) (h:Qfd C p_s p_prefix K H):Qdu C p_s p_prefix K H:=by
 refine Ye Tryz.func261 rfl Tryz.ntmps261 [(0,sv p_s),(1,sv p_prefix)] (Zo (Za (GL.nil (Zo (Zm (Zm (Zc h Qeh ?_)))))))
 rintro _ H2 ⟨r1,rfl,h⟩
 refine Za (GL.nil ?_)
 exact Y1 I3 ⟨r1,rfl,h⟩
def QjG (C:Ctx) (p_s:Str) (p_cutset:Str) (K:Str→Heap→Prop) (H:Heap):Prop:=
 ift ((p_s == ([]:Str)) || (p_cutset == ([]:Str)))
 (K p_s H)
 (jn (α:=Bool) (fun b3 H10=>
 ift b3
 (dr H10 fun Hs12=>
 ixs p_cutset 0 fun c14=>
 ixs p_cutset 0 fun c17=>
 Qif C p_s (c14.toNat:Int) (fun r21 H22=>
 Heap.le Hs12 H22∧
 QiU C r21 (c17.toNat:Int) (fun r24 H25=>
 Heap.le Hs12 H25∧
 K r24 H25) H22) H10)
 (Qaa C p_cutset (fun r26 r27 H28=>
 nw ((List.replicate 256 (.bool false:Value))) (fun b29 H30=>
 stC 256 (b29,0) r26 (fun H31=>
 ift r27
 (QbT C p_s (some (b29,0)) (fun r35 H36=>
 Qcb C r35 (some (b29,0)) (fun r37 H38=>
 K r37 H38) H36) H31)
 (Qgj C p_s p_cutset (fun r39 H40=>
 QgR C r39 p_cutset (fun r41 H42=>
 K r41 H42) H40) H31)) H30) H28) H10))
 (fun J4=>ift (((List.length p_cutset:Int):Int) == 1)
 (ixs p_cutset 0 fun c7=>
 J4 (decide (((c7.toNat:Int):Int) < 128)) H)
 (J4 false H)))
theorem QmE (C p_s p_cutset K H) (h:QjG C p_s p_cutset K H):QbH C p_s p_cutset K H:=by
 refine Ye Tryz.func262 rfl Tryz.ntmps262 [(0,sv p_s),(1,sv p_cutset)] (Zo (Za (GL.nil (GC.seq (Zo (Zm (Zv (OV.sbin (a:=p_s) (b:=([]:Str)) (v:=.bool (p_s == ([]:Str))) rfl rfl rfl) (Zm (GL.cut0 3 [(12,.bool ((p_s == ([]:Str)) || (p_cutset == ([]:Str)))),(0,sv p_s),(1,sv p_cutset)] ?_ ?_)))))))))
 rcases Zb (p_s == ([]:Str)) with u1 | u1
 refine Zk u1 (Zk u1 (Zt u1 ?_))
 exact GL.jump0 I3 () rfl ⟨(by rw [u1]; rfl),rfl,rfl,trivial⟩
 refine Zu u1 Ym (Zu u1 (OV.sbin (a:=p_cutset) (b:=([]:Str)) (v:=.bool (p_cutset == ([]:Str))) rfl rfl rfl) (Zn u1 ?_))
 exact GL.jump0 I3 () rfl ⟨(by rw [u1]; rfl),rfl,rfl,trivial⟩
 refine GL.nil (Yd h (fun u2 h=>?_) fun u2 h=>?_)
 refine Zo (Zm (Za (GL.nil ?_)))
 exact Y1 I3 ⟨p_s,rfl,h⟩
 refine GC.skip (GC.seq (Zo (Zm (Zr (Zi (.bool (((List.length p_cutset:Int):Int) == 1)) (Zm ?_))))))
 obtain ⟨J4,h,hR5⟩:=h
 refine GL.cut (α:=Bool) 4 J4 (fun b3=>[(21,.bool b3),(0,sv p_s),(1,sv p_cutset)]) ?_ ?_
 rcases h.em with ⟨u6,h⟩ | ⟨u6,h⟩
 refine Zu u6 Ym ?_
 obtain ⟨c7,ha8,hb9,h⟩:=h
 refine Zu u6 (OV.indexStr rfl rfl rfl ha8 hb9) (Zu u6 (OV.ibin (v:=.bool (decide (((c7.toNat:Int):Int) < 128))) rfl rfl rfl) (Zt u6 ?_))
 exact Yj I3 (decide (((c7.toNat:Int):Int) < 128)) h
 refine Zk u6 (Zk u6 (Zk u6 (Zn u6 ?_)))
 exact Yj I3 false h
 intro b3 H10 h
 replace h:=hR5 b3 H10 h
 refine GL.nil (Yd h (fun u11 h=>?_) fun u11 h=>?_)
 refine GC.seq ?_
 obtain ⟨Hs12,hle13,h⟩:=h
 refine GC.any (Hs:=Hs12) (by kernel_rfl) hle13 (Zp 0 rfl Ym (Zp 1 rfl Ym ?_))
 obtain ⟨c14,ha15,hb16,h⟩:=h
 refine Zp 2 rfl (OV.indexStr rfl rfl rfl ha15 hb16) (Zp 4 rfl Ym ?_)
 obtain ⟨c17,ha18,hb19,h⟩:=h
 refine Zp 5 rfl (OV.indexStr rfl rfl rfl ha18 hb19) (GA.eff 3 rfl (by kernel_rfl) (Zc h QhD ?_))
 rintro _ H22 ⟨r21,rfl,h⟩
 obtain ⟨hle20,h⟩:=h
 refine GA.back hle20 (GA.eff 6 rfl (by kernel_rfl) (Zc h Qin ?_))
 rintro _ H25 ⟨r24,rfl,h⟩
 obtain ⟨hle23,h⟩:=h
 refine GA.back hle23 (Zp 7 rfl Ya (GA.done (by kernel_rfl) (GL.nil ?_)))
 exact Y1 I3 ⟨r24,rfl,h⟩
 refine GC.skip (GC.seq (Zo (Zm (Zc h Qim ?_))))
 rintro _ H28 ⟨r26,r27,rfl,h⟩
 refine Zm (Yv (.agg (List.toArray r26)) rfl rfl (Yv (.bool r27) rfl rfl (GL.alloc (cs:=(List.replicate 256 (.bool false:Value))) h trivial rfl rfl rfl ?_)))
 intro b29 H30 h
 obtain ⟨hl32,h133,h⟩:=h
 refine GL.storeT (p:=(b29,0)) (vs:=r26) h trivial rfl rfl h133 (by rw [hl32]; rfl) ?_
 intro H31 h
 refine Za (GL.nil (Zo (Zm (GL.nil (Yd h (fun u34 h=>?_) fun u34 h=>?_)))))
 refine Zo (Zm (Zc h QgZ ?_))
 rintro _ H36 ⟨r35,rfl,h⟩
 refine Zc h QhC ?_
 rintro _ H38 ⟨r37,rfl,h⟩
 refine Za (GL.nil ?_)
 exact Y1 I3 ⟨r37,rfl,h⟩
 refine GC.skip (Zo (Zm (Zm (Zc h Qf3 ?_))))
 rintro _ H40 ⟨r39,rfl,h⟩
 refine Zm (Zc h Qgk ?_)
 rintro _ H42 ⟨r41,rfl,h⟩
 refine Za (GL.nil ?_)
 exact Y1 I3 ⟨r41,rfl,h⟩
def Qbx (C:Ctx) (p_s:Str) (p_prefix:Str) (K:Str→Heap→Prop) (H:Heap):Prop:=
 Qag C p_s p_prefix (fun r1 H2=>
 ift r1
 (slS p_s (List.length p_prefix:Int) (List.length p_s:Int) fun t4=>
 K t4 H2)
 (K p_s H2)) H
theorem Qeg (C p_s p_prefix K H) (h:Qbx C p_s p_prefix K H):Qbz C p_s p_prefix K H:=by
 refine Ye Tryz.func268 rfl Tryz.ntmps268 [(0,sv p_s),(1,sv p_prefix)] (Zo (Za (GL.nil (GC.seq (Zo (Zm (Zm (Zc h QbC ?_))))))))
 rintro _ H2 ⟨r1,rfl,h⟩
 refine GL.nil (Yd h (fun u3 h=>?_) fun u3 h=>?_)
 refine Zo (Zm (Zm (Zr ?_)))
 obtain ⟨h5,h6,h7,t4,h8,h⟩:=h
 refine Zv (OV.sliceStr (s:=p_s) h5 h6 h7 h8 rfl rfl rfl rfl rfl rfl) (Za (GL.nil ?_))
 exact Y1 I3 ⟨t4,rfl,h⟩
 refine GC.skip (Zo (Zm (Za (GL.nil ?_))))
 exact Y1 I3 ⟨p_s,rfl,h⟩
def Qez (C:Ctx) (p_chars:Str) (K:List Value→Bool→Heap→Prop) (H:Heap):Prop:=
 nw ((List.replicate 256 (.bool false:Value))) (fun b1 H2=>
 lp (α:=Int) 0 H2 (fun x3 J4 H5=>
 ift (decide ((x3:Int) < (List.length p_chars:Int)))
 (ixs p_chars x3 fun c7=>
 ift (decide (((c7.toNat:Int):Int) ≥ 128))
 (ldC H5 256 (b1,0) fun x11=>
 stC 256 (b1,0) x11 (fun H14=>
 ldC H14 256 (b1,0) fun x17=>
 K x17 false H14) H5)
 (ixr (b1,0) 256 (c7.toNat:Int) <|
 st ((b1,0).1,(b1,0).2+((c7.toNat:Int):Int).toNat*1) (.bool true) (fun H22=>
 J4 (w .i64 (x3+1)) H22) H5))
 (ldC H5 256 (b1,0) fun x23=>
 stC 256 (b1,0) x23 (fun H26=>
 ldC H26 256 (b1,0) fun x29=>
 K x29 true H26) H5))) H
theorem Qh2 (C p_chars K H) (h:Qez C p_chars K H):Qaa C p_chars K H:=by
 refine Ye Tryz.func271 rfl Tryz.ntmps271 [(0,sv p_chars)] (Zo (GL.alloc (cs:=(List.replicate 256 (.bool false:Value))) h trivial rfl rfl rfl ?_))
 intro b1 H2 h
 refine Za (GL.nil (GC.seq (Zo (Za (GL.nil (GC.block (Yp h (fun x3=>[(4,.int .i64 x3),(0,sv p_chars),(2,pv (some (b1,0)))]) ?_)))))))
 intro x3 H5 J4 h
 refine GC.seq (Zo (Zm (Zm (Zr (Zi (.bool (decide ((x3:Int) < (List.length p_chars:Int)))) (GL.nil (Yd h (fun u6 h=>?_) fun u6 h=>?_)))))))
 refine GC.skip (GC.seq (GC.block (Zo (Zm (Zm (Ys h fun c7 h=>?_))))))
 refine Za (GL.nil (GC.seq (Zo (Zm (Zi (.bool (decide (((c7.toNat:Int):Int) ≥ 128))) (GL.nil (Yd h (fun u10 h=>?_) fun u10 h=>?_)))))))
 refine Zo ?_
 obtain ⟨x11,hl13,v12,h⟩:=h
 refine Zv (OV.loadT (p:=(b1,0)) (cs:=x11) rfl rfl (by rw [hl13]; rfl) v12) ?_
 obtain ⟨hl15,h116,h⟩:=h
 refine GL.storeT (p:=(b1,0)) (vs:=x11) h trivial rfl rfl h116 (by rw [hl15]; rfl) ?_
 intro H14 h
 refine Za (GL.nil ?_)
 obtain ⟨x17,hl19,v18,h⟩:=h
 exact GC.ret (fun _ _ hf hs=>QpK rfl (RV.cellT (p:=(b1,0)) (cs:=x17) rfl rfl (by rw [hl19]; rfl) v18) (RV.tmp rfl) hf hs ⟨x17,false,rfl,h⟩)
 refine GC.skip (GC.region (Zm ?_))
 obtain ⟨ha20,hb21,h⟩:=h
 refine Zv (OV.indexAddrA (p:=(b1,0)) rfl rfl rfl rfl ha20 hb21) (GL.store (p:=((b1,0).1,(b1,0).2+((c7.toNat:Int):Int).toNat*1)) (v:=.bool true) h trivial rfl rfl rfl rfl ?_)
 intro H22 h
 refine GL.nil_to I3 (GC.region (Zm (Zi (.int .i64 (w .i64 (x3+1))) (Za ?_))))
 exact Yj I3 (w .i64 (x3+1)) h
 refine GC.exit_to I3 (Zo ?_)
 obtain ⟨x23,hl25,v24,h⟩:=h
 refine Zv (OV.loadT (p:=(b1,0)) (cs:=x23) rfl rfl (by rw [hl25]; rfl) v24) ?_
 obtain ⟨hl27,h128,h⟩:=h
 refine GL.storeT (p:=(b1,0)) (vs:=x23) h trivial rfl rfl h128 (by rw [hl27]; rfl) ?_
 intro H26 h
 refine Za (GL.nil ?_)
 obtain ⟨x29,hl31,v30,h⟩:=h
 exact GC.ret (fun _ _ hf hs=>QpK rfl (RV.cellT (p:=(b1,0)) (cs:=x29) rfl rfl (by rw [hl31]; rfl) v30) (RV.tmp rfl) hf hs ⟨x29,true,rfl,h⟩)
def Qd5 (C:Ctx) (p_s:Str) (p_as:Option (Nat×Nat)) (K:Str→Heap→Prop) (H:Heap):Prop:=
 jn (α:=Str) (fun x2 H3=>
 K x2 H3)
 (fun J1=>lp (α:=Str) p_s H (fun x5 J6 H7=>
 ift (decide (((List.length x5:Int):Int) > 0))
 (ixs x5 0 fun c9=>
 QaJ C p_as (c9.toNat:Int) (fun r12 H13=>
 ift (!r12)
 (J1 x5 H13)
 (slS x5 1 (List.length x5:Int) fun t15=>
 J6 t15 H13)) H7)
 (J1 x5 H7)))
theorem Qhf (C p_s p_as K H) (h:Qd5 C p_s p_as K H):Qcb C p_s p_as K H:=by
 refine Ye Tryz.func272 rfl Tryz.ntmps272 [(0,sv p_s),(1,pv p_as)] (Zo (Za (GL.nil ?_)))
 obtain ⟨J1,h,hR4⟩:=h
 refine GC.join (α:=Str) J1 (fun x2=>[(0,sv x2)]) ?_ ?_
 refine GC.block (Yp h (fun x5=>[(0,sv x5),(1,pv p_as)]) ?_)
 intro x5 H7 J6 h
 refine GC.seq (Zo (Zm (Zr (Zi (.bool (decide (((List.length x5:Int):Int) > 0))) (GL.nil (Yd h (fun u8 h=>?_) fun u8 h=>?_))))))
 refine GC.skip (GC.block (GC.seq (Zo (Zm (Zm (Ys h fun c9 h=>?_))))))
 refine Zc h QcQ ?_
 rintro _ H13 ⟨r12,rfl,h⟩
 refine Zv (OV.not rfl) (GL.nil (Yd h (fun u14 h=>?_) fun u14 h=>?_))
 exact GC.exit_jump I3 x5 h ⟨rfl,trivial⟩
 refine GC.skip (GC.region (Zm ?_))
 obtain ⟨h16,h17,h18,t15,h19,h⟩:=h
 refine Zv (OV.sliceStr (s:=x5) h16 h17 h18 h19 rfl rfl rfl rfl rfl rfl) (Za ?_)
 exact Yj I3 t15 h
 exact GC.exit_jump I3 x5 h ⟨rfl,trivial⟩
 intro x2 H3 h
 replace h:=hR4 x2 H3 h
 refine Zo (Zm (Za (GL.nil ?_)))
 exact Y1 I3 ⟨x2,rfl,h⟩
def QdO (C:Ctx) (p_s:Str) (p_as:Option (Nat×Nat)) (K:Str→Heap→Prop) (H:Heap):Prop:=
 jn (α:=Str) (fun x2 H3=>
 K x2 H3)
 (fun J1=>lp (α:=Str) p_s H (fun x5 J6 H7=>
 ift (decide (((List.length x5:Int):Int) > 0))
 (ixs x5 (w .i64 ((List.length x5:Int) - 1)) fun c9=>
 QaJ C p_as (c9.toNat:Int) (fun r12 H13=>
 ift (!r12)
 (J1 x5 H13)
 (slS x5 0 (w .i64 ((List.length x5:Int) - 1)) fun t15=>
 J6 t15 H13)) H7)
 (J1 x5 H7)))
theorem QgK (C p_s p_as K H) (h:QdO C p_s p_as K H):QbT C p_s p_as K H:=by
 refine Ye Tryz.func273 rfl Tryz.ntmps273 [(0,sv p_s),(1,pv p_as)] (Zo (Za (GL.nil ?_)))
 obtain ⟨J1,h,hR4⟩:=h
 refine GC.join (α:=Str) J1 (fun x2=>[(0,sv x2)]) ?_ ?_
 refine GC.block (Yp h (fun x5=>[(0,sv x5),(1,pv p_as)]) ?_)
 intro x5 H7 J6 h
 refine GC.seq (Zo (Zm (Zr (Zi (.bool (decide (((List.length x5:Int):Int) > 0))) (GL.nil (Yd h (fun u8 h=>?_) fun u8 h=>?_))))))
 refine GC.skip (GC.block (GC.seq (Zo (Zm (Zm (Zm (Zr (Zi (.int .i64 (w .i64 ((List.length x5:Int) - 1))) (Ys h fun c9 h=>?_)))))))))
 refine Zc h QcQ ?_
 rintro _ H13 ⟨r12,rfl,h⟩
 refine Zv (OV.not rfl) (GL.nil (Yd h (fun u14 h=>?_) fun u14 h=>?_))
 exact GC.exit_jump I3 x5 h ⟨rfl,trivial⟩
 refine GC.skip (GC.region (Zm (Zm (Zr (Zi (.int .i64 (w .i64 ((List.length x5:Int) - 1))) ?_)))))
 obtain ⟨h16,h17,h18,t15,h19,h⟩:=h
 refine Zv (OV.sliceStr (s:=x5) h16 h17 h18 h19 rfl rfl rfl rfl rfl rfl) (Za ?_)
 exact Yj I3 t15 h
 exact GC.exit_jump I3 x5 h ⟨rfl,trivial⟩
 intro x2 H3 h
 replace h:=hR4 x2 H3 h
 refine Zo (Zm (Za (GL.nil ?_)))
 exact Y1 I3 ⟨x2,rfl,h⟩
def QcU (C:Ctx) (p_as:Option (Nat×Nat)) (p_c:Int) (K:Bool→Heap→Prop) (H:Heap):Prop:=
 nck p_as fun p1=>
 ixr p1 256 p_c <|
 ldB H (p1.1,p1.2+(p_c:Int).toNat*1) fun x5=>
 K x5 H
theorem QfJ (C p_as p_c K H) (h:QcU C p_as p_c K H):QaJ C p_as p_c K H:=by
 refine Ye Tryz.func278 rfl Tryz.ntmps278 [(0,pv p_as),(1,.int .u8 p_c)] (Zo (Za (GL.nil (Zo (Zm (Zm ?_))))))
 obtain ⟨p1,hp2,h⟩:=h
 refine Zv (OV.nilCheck (q:=p_as) rfl hp2) ?_
 obtain ⟨ha3,hb4,h⟩:=h
 refine Zv (OV.indexAddrA (p:=p1) rfl rfl rfl rfl ha3 hb4) (Yl h fun x5 h=>?_)
 refine Za (GL.nil ?_)
 exact Y1 I3 ⟨x5,rfl,h⟩
end
end Sx
end
noncomputable section
set_option linter.unusedVariables false
namespace Go.Proofs
open Go.Shelf
def Tryz.lays173_ren:Go.Shelf.Ren:=⟨fun | 173=>234 | 246=>249 | 283=>257 | 284=>258 | 285=>259 | 286=>260 | 129=>264 | 317=>263 | 318=>265 | 319=>266 | 320=>267 | 337=>276 | 338=>277 | n=>n,fun | 2=>2 | 3=>3 | 9=>9 | 4=>4 | 171=>283 | 0=>0 | 53=>284 | 37=>87 | 5=>5 | 173=>287 | 212=>291 | 51=>277 | 20=>20 | 213=>292 | 46=>80 | 232=>306 | 233=>307 | n=>n,fun | 17=>1 | 18=>2 | 19=>3 | n=>n⟩
theorem Tryz.lays173:Go.Proofs.LaysM.n173 Tryz.prog Tryz.lays173_ren:={
 mixed:=by kernel_rfl
 f129:=Tryz.func264.trans (congrArg some (by kernel_rfl))
 f173:=Tryz.func234.trans (congrArg some (by kernel_rfl))
 f246:=Tryz.func249.trans (congrArg some (by kernel_rfl))
 f283:=Tryz.func257.trans (congrArg some (by kernel_rfl))
 f284:=Tryz.func258.trans (congrArg some (by kernel_rfl))
 f285:=Tryz.func259.trans (congrArg some (by kernel_rfl))
 f286:=Tryz.func260.trans (congrArg some (by kernel_rfl))
 f317:=Tryz.func263.trans (congrArg some (by kernel_rfl))
 f318:=Tryz.func265.trans (congrArg some (by kernel_rfl))
 f319:=Tryz.func266.trans (congrArg some (by kernel_rfl))
 f320:=Tryz.func267.trans (congrArg some (by kernel_rfl))
 f337:=Tryz.func276.trans (congrArg some (by kernel_rfl))
 f338:=Tryz.func277.trans (congrArg some (by kernel_rfl))
 t0:=Tryz.underlying0
 a0:=Tryz.isAgg0
 z0:=Tryz.sizeOf0
 v0:=Tryz.zeroValue0
 t2:=Tryz.underlying2
 a2:=Tryz.isAgg2
 z2:=Tryz.sizeOf2
 v2:=Tryz.zeroValue2
 t3:=Tryz.underlying3
 a3:=Tryz.isAgg3
 z3:=Tryz.sizeOf3
 v3:=Tryz.zeroValue3
 t4:=Tryz.underlying4
 a4:=Tryz.isAgg4
 z4:=Tryz.sizeOf4
 v4:=Tryz.zeroValue4
 t5:=Tryz.underlying5
 a5:=Tryz.isAgg5
 z5:=Tryz.sizeOf5
 v5:=Tryz.zeroValue5
 t9:=Tryz.underlying9
 a9:=Tryz.isAgg9
 z9:=Tryz.sizeOf9
 v9:=Tryz.zeroValue9
 t20:=Tryz.underlying20
 a20:=Tryz.isAgg20
 z20:=Tryz.sizeOf20
 v20:=Tryz.zeroValue20
 t37:=Tryz.underlying87
 a37:=Tryz.isAgg87
 z37:=Tryz.sizeOf87
 v37:=Tryz.zeroValue87
 t46:=Tryz.underlying80
 a46:=Tryz.isAgg80
 z46:=Tryz.sizeOf80
 v46:=Tryz.zeroValue80
 t51:=Tryz.underlying277
 a51:=Tryz.isAgg277
 z51:=Tryz.sizeOf277
 v51:=Tryz.zeroValue277
 t53:=Tryz.underlying284
 a53:=Tryz.isAgg284
 z53:=Tryz.sizeOf284
 v53:=Tryz.zeroValue284
 t171:=Tryz.underlying283
 a171:=Tryz.isAgg283
 z171:=Tryz.sizeOf283
 v171:=Tryz.zeroValue283
 t173:=Tryz.underlying287
 a173:=Tryz.isAgg287
 z173:=Tryz.sizeOf287
 v173:=Tryz.zeroValue287
 t212:=Tryz.underlying291
 a212:=Tryz.isAgg291
 z212:=Tryz.sizeOf291
 v212:=Tryz.zeroValue291
 t213:=Tryz.underlying292
 a213:=Tryz.isAgg292
 z213:=Tryz.sizeOf292
 t232:=Tryz.underlying306
 a232:=Tryz.isAgg306
 z232:=Tryz.sizeOf306
 v232:=Tryz.zeroValue306
 t233:=Tryz.underlying307
 a233:=Tryz.isAgg307
 z233:=Tryz.sizeOf307
 v233:=Tryz.zeroValue307
 g17:=by kernel_rfl
 g18:=by kernel_rfl
 g19:=by kernel_rfl
 i0:=by kernel_rfl
 i2:=by kernel_rfl
 i3:=by kernel_rfl
 i4:=by kernel_rfl
 i5:=by kernel_rfl
 i9:=by kernel_rfl
 i20:=by kernel_rfl
 i37:=by kernel_rfl
 i46:=by kernel_rfl
 i51:=by kernel_rfl
 i53:=by kernel_rfl
 i171:=by kernel_rfl
 i173:=by kernel_rfl
 i212:=by kernel_rfl
 i232:=by kernel_rfl
 i233:=by kernel_rfl
 m17:=by kernel_rfl
 m18:=by kernel_rfl
 m19:=by kernel_rfl }
end Go.Proofs
namespace Sx
open Go Go.Proofs Go.Stop Go.RowKit
/-- the table of powers, as it was laid -/
def PowT (C:Ctx):Prop:=∃ t fr,C.old[(Tryz.lays173_ren.g 17)]? = some (.cells (Lib.pow10Tab.map fun z=>Value.int .u64 z).toArray t fr)
/-- what writes numbers -/
structure FmtC (C:Ctx):Prop where
 ok:∀ {n:Int} {H:Heap} {K:Str→Heap→Prop},-9223372036854775808≤n→n≤9223372036854775807→K (Lib.itoa n) H→QfV C n 10 K H
theorem St.more {C:Ctx} {w:World} {H:Heap} (h:St C w H) (o:Obj):St C { w with heap:=w.heap.push o } H:=by
 by_cases hc:∃ c t fr,o=.cells c t fr
 ·obtain ⟨c,t,fr,rfl⟩:=hc
  exact (h.push (o:=.cells c t fr) (m:=false) (g:=.row c.toList) ⟨by simp,fun h=>by cases h⟩).weaken (Heap.le_put h.fresh)
 ·exact (h.push (o:=o) (m:=false) (g:=.obj o) ⟨rfl,fun c t fr e=>hc ⟨c,t,fr,e⟩⟩).weaken (Heap.le_put h.fresh)
theorem St.growL {C:Ctx} {H:Heap}:∀ (os:List Obj) {w:World},St C w H→St C { w with heap:=w.heap++os.toArray } H
 | [],w,h=>by
  have e:w.heap++([]:List Obj).toArray=w.heap:=by simp
  rw [e]; exact h
 | o::os,w,h=>by
  have e:w.heap++(o::os).toArray=w.heap.push o++os.toArray:=by apply Array.ext'; simp
  have:=St.growL os (h.more o)
  rw [e]; exact this
theorem St.drewN {C:Ctx} {H:Heap} {w:World} (h:St C w H):∀ k,St C (w.drewN k) H
 | 0=>h
 | k+1=>(St.drewN h k).drew
theorem Qvh {C:Ctx} (hT:PowT C):FmtC C:=⟨fun {n H K} h0 h1 k=>by
 intro w hw
 obtain ⟨t,fr,hg⟩:=hT
 have hlt:=(Array.getElem?_eq_some_iff.1 hg).1
 refine (Any.strconv_FormatInt_10 Tryz.lays173 n h0 h1 w ?_).mono ?_
 ·unfold Lib.TabIs World.var?
  rw [Tryz.lays173.m17]
  simp only [Option.bind_some]
  rw [hw.old _ hlt,hg]
 ·rintro e w' ⟨rfl,k',os,rfl⟩
  have h2:=St.growL os.toList (hw.drewN k')
  rw [Array.toArray_toList] at h2
  exact ⟨_,H,rfl,h2,⟨_,rfl,k⟩⟩⟩
theorem QqZ {W:World} {name:String} (hg:Tryz.prog.globalNamed name=some (Tryz.lays173_ren.g 17)):∀ (i:Nat) {l:List (String×DataW Unit)} {ps:List MemPlace},DataW.LaidVars Tryz.prog W l ps→l[i]? = some (name,Lib.tabData .u64 Lib.pow10Tab)→PowT (ctxOf W)
 | _,[],ps,_,hi=>by simp at hi
 | 0,(n,d)::r,ps,⟨g,t,cs,fuel,p,q,h1,h2,h3,h4,h5,h6⟩,hi=>by
  simp only [List.getElem?_cons_zero,Option.some.injEq,Prod.mk.injEq] at hi
  obtain ⟨rfl,rfl⟩:=hi
  obtain rfl:=Option.some.inj (hg.symm.trans h1)
  have hT:(Tryz.prog.globals[(Tryz.lays173_ren.g 17)]?).map (·.type)=some 291:=by kernel_rfl
  obtain rfl:=Option.some.inj (hT.symm.trans h2)
  have hc:=Lib.cells_of_tab Tryz.underlying291 Tryz.underlying284 (by kernel_rfl) (by kernel_rfl) h4
  unfold World.var? at h3
  rw [h1] at h3
  simp only [Option.bind_some] at h3
  cases hb:W.heap[(Tryz.lays173_ren.g 17)]? with
  | none=>rw [hb] at h3; cases h3
  | some o=>
   rw [hb] at h3
   cases o <;> simp only [reduceCtorEq,Option.some.injEq] at h3
   rename_i c ty fr
   subst h3
   refine ⟨ty,fr,?_⟩
   show W.heap[(Tryz.lays173_ren.g 17)]? = _
   rw [hb,← hc]
 | i+1,(n,d)::r,ps,⟨g,t,cs,fuel,p,q,h1,h2,h3,h4,h5,h6⟩,hi=>QqZ hg i h5 (by simpa using hi)
theorem QuH {W:World} {name:String} {l:List (String×DataW Unit)} (h:laidMet Tryz.prog l W) (i:Nat) (hi:l[i]? = some (name,Lib.tabData .u64 Lib.pow10Tab)) (hg:Tryz.prog.globalNamed name=some (Tryz.lays173_ren.g 17)):PowT (ctxOf W):=by
 obtain ⟨ps,h1,_⟩:=h
 exact QqZ hg i h1 hi
end Sx
end

noncomputable section
set_option linter.unusedVariables false
set_option linter.unusedSimpArgs false
namespace Go.Proofs
open Go.Shelf
def Tryz.lays144_ren:Go.Shelf.Ren:=⟨fun | 144=>121 | 143=>187 | 219=>221 | 217=>241 | 225=>242 | 224=>243 | 267=>244 | 266=>253 | 314=>254 | n=>n,fun | 9=>9 | 4=>4 | 3=>3 | 5=>5 | 46=>80 | 146=>278 | 51=>277 | n=>n,fun | 1=>0 | n=>n⟩
theorem Tryz.lays144:Go.Proofs.Lays.n144 Tryz.prog Tryz.lays144_ren:={
 mixed:=by kernel_rfl
 f143:=Tryz.func187.trans (congrArg some (by kernel_rfl))
 f144:=Tryz.func121.trans (congrArg some (by kernel_rfl))
 f217:=Tryz.func241.trans (congrArg some (by kernel_rfl))
 f219:=Tryz.func221.trans (congrArg some (by kernel_rfl))
 f224:=Tryz.func243.trans (congrArg some (by kernel_rfl))
 f225:=Tryz.func242.trans (congrArg some (by kernel_rfl))
 f266:=Tryz.func253.trans (congrArg some (by kernel_rfl))
 f267:=Tryz.func244.trans (congrArg some (by kernel_rfl))
 f314:=Tryz.func254.trans (congrArg some (by kernel_rfl))
 t3:=Tryz.underlying3
 a3:=Tryz.isAgg3
 z3:=Tryz.sizeOf3
 v3:=Tryz.zeroValue3
 t4:=Tryz.underlying4
 a4:=Tryz.isAgg4
 z4:=Tryz.sizeOf4
 v4:=Tryz.zeroValue4
 t5:=Tryz.underlying5
 a5:=Tryz.isAgg5
 z5:=Tryz.sizeOf5
 v5:=Tryz.zeroValue5
 t9:=Tryz.underlying9
 a9:=Tryz.isAgg9
 z9:=Tryz.sizeOf9
 v9:=Tryz.zeroValue9
 t46:=Tryz.underlying80
 a46:=Tryz.isAgg80
 z46:=Tryz.sizeOf80
 v46:=Tryz.zeroValue80
 t51:=Tryz.underlying277
 a51:=Tryz.isAgg277
 z51:=Tryz.sizeOf277
 v51:=Tryz.zeroValue277
 t146:=Tryz.underlying278
 a146:=Tryz.isAgg278
 z146:=Tryz.sizeOf278
 v146:=Tryz.zeroValue278
 g1:=by kernel_rfl }
end Go.Proofs
namespace Sx
open Go Go.Proofs Go.Stop Go.RowKit
/-- the library's variable holds some number -/
def MaxC (C:Ctx):Prop:=0 < C.old.size∧∃ m,∀ w:World,(∀ b:Nat,b < C.old.size→w.heap[b]? = C.old[b]?)→w.cell? ⟨0,0,none⟩=some (.int .i64 m)
theorem Qn3 {C:Ctx} {a b:Str} {H:Heap} {K:Bool→Heap→Prop} (hT:MaxC C) (hl:a.length < 4294967281) (k:K (Lib.contains a b) H):Qgp C a b K H:=by
 intro w hw
 obtain ⟨_,m,hm⟩:=hT
 refine (Any.strings_Contains Tryz.lays144 ⟨a.toArray⟩ ⟨b.toArray⟩ m w (by show a.toArray.size < _; simpa using hl) (hm w hw.old)).mono ?_
 rintro e w' ⟨rfl,rfl⟩
 exact ⟨_,H,rfl,hw,_,rfl,by simpa using k⟩
theorem Quy {W:World} (h:W.ShapedOpen Tryz.prog):MaxC (ctxOf W):=by
 obtain ⟨m,hm⟩:=cell_of_shapedOpen_int (g:=0) (t:=3) (zero:=#[.int .i64 0]) (k:=.i64) h (by decide +kernel) (by kernel_rfl) rfl (by kernel_rfl) (by kernel_rfl) Tryz.underlying3
 have hlt:0 < W.heap.size:=by
  rcases Nat.lt_or_ge 0 W.heap.size with h | h
  ·exact h
  ·simp [World.cell?,Array.getElem?_eq_none h] at hm
 refine ⟨hlt,m,fun w hw=>?_⟩
 have:=hw 0 hlt
 simp only [World.cell?] at hm ⊢
 rw [this]; exact hm
end Sx
end

noncomputable section
set_option linter.unusedVariables false
set_option linter.unusedSimpArgs false
namespace Sx
open Go
inductive V where
 | mk (k n:Int) (s:Str) (l:List V)
namespace V
def k:V→Int | .mk k _ _ _=>k
def n:V→Int | .mk _ n _ _=>n
def s:V→Str | .mk _ _ s _=>s
def l:V→List V | .mk _ _ _ l=>l
end V
mutual
def vsize:V→Nat
 | .mk _ _ _ l=>vsizes l+1
def vsizes:List V→Nat
 | []=>0
 | v::l=>vsize v+vsizes l
end
theorem QpX:∀ {l:List V} {v:V},v ∈ l→vsize v≤vsizes l
 | w::l,v,h=>by
  simp only [vsizes]
  rcases List.mem_cons.1 h with rfl | h
  ·omega
  ·have:=QpX h; omega
theorem Qu2 {v w:V} (h:w ∈ v.l):vsize w < vsize v:=by
 obtain ⟨k,n,s,l⟩:=v
 have:=QpX (show w ∈ l from h)
 simp only [vsize]; omega
/-- by how great a value is -/
theorem V.rec_ {P:V→Prop} (h:∀ v,(∀ w ∈ v.l,P w)→P v) (v:V):P v:=by
 have:∀ n v,vsize v≤n→P v:=by
  intro n
  induction n with
  | zero=>intro v hv; obtain ⟨k,n,s,l⟩:=v; simp [vsize] at hv
  | succ n ih=>intro v hv; exact h v fun w hw=>ih w (by have:=Qu2 hw; omega)
 exact this _ v (Nat.le_refl _)
mutual
def dep:V→Nat
 | .mk _ _ _ l=>deps l+1
def deps:List V→Nat
 | []=>0
 | v::l=>max (dep v) (deps l)
end
theorem Qvc (v:V):dep v=deps v.l+1:=by obtain ⟨k,n,s,l⟩:=v; rfl
theorem QkP:∀ (a b:List V),deps (a++b)=max (deps a) (deps b)
 | [],b=>by simp [deps]
 | v::a,b=>by simp only [List.cons_append,deps,QkP a b]; omega
theorem QrU {l:List V} {i:Nat} (h:i < l.length):deps (l.take (i+1))=max (deps (l.take i)) (dep l[i]):=by
 rw [List.take_add_one,List.getElem?_eq_getElem h,Option.toList_some,QkP]; simp [deps]
theorem QrT:∀ {l:List V} {v:V},v ∈ l→dep v≤deps l
 | w::l,v,h=>by
  simp only [deps]
  rcases List.mem_cons.1 h with rfl | h
  ·omega
  ·have:=QrT h; omega
def lowC (c:UInt8):Bool:=decide (97≤c.toNat) && decide (c.toNat≤122)
def nameC (c:UInt8):Bool:=lowC c || (decide (65≤c.toNat) && decide (c.toNat≤90)) || (decide (48≤c.toNat) && decide (c.toNat≤57)) || decide (c.toNat=95)
def nameS (s:Str):Bool:=!s.isEmpty && decide (s.length≤32) && lowC (s.headD 0) && s.all nameC
def digC (c:UInt8):Bool:=decide (48≤c.toNat) && decide (c.toNat≤57)
def cutD:Str→Option (Str×Str)
 | []=>none
 | c::t=>if c=46 then some ([],t) else (cutD t).map fun p=>(c::p.1,p.2)
theorem QmY:∀ (a b:Str),(46:UInt8) ∉ a→cutD (a++46::b)=some (a,b)
 | [],b,_=>by simp [cutD]
 | c::a,b,h=>by
  have h1:c≠46:=fun e=>h (by rw [e]; exact List.mem_cons_self ..)
  simp only [List.cons_append,cutD,if_neg h1,QmY a b fun hh=>h (List.mem_cons_of_mem _ hh)]; rfl
theorem QmZ:∀ (a:Str),(46:UInt8) ∉ a→cutD a=none
 | [],_=>rfl
 | c::a,h=>by
  have h1:c≠46:=fun e=>h (by rw [e]; exact List.mem_cons_self ..)
  simp only [cutD,if_neg h1,QmZ a fun hh=>h (List.mem_cons_of_mem _ hh)]; rfl
theorem Qmx:∀ (s:Str),(46:UInt8) ∈ s→∃ a b,s=a++46::b∧46 ∉ a
 | c::s,h=>by
  by_cases hc:c=46
  ·exact ⟨[],s,by rw [hc]; rfl,by simp⟩
  ·obtain ⟨a, b, h1, h2⟩ := Qmx s (by simpa [Ne.symm hc] using h)
   exact ⟨c::a,b,by rw [h1]; rfl,by simp [h2,Ne.symm hc]⟩
def trueS:Str:=[116,114,117,101]
def falseS:Str:=[102,97,108,115,101]
def namesS (s:Str):Bool:=if s=trueS∨s=falseS then false else match cutD s with
 | some (a,b)=>nameS a && nameS b
 | none=>nameS s
def unmin (s:Str):Str:=if s.head? = some 45 then s.tail else s
def numS (s:Str):Bool:=!(unmin s).isEmpty && (unmin s).all digC && !(decide ((unmin s).head? = some 48) && decide (s≠[48]))
def digits (s:Str):Nat:=(unmin s).length
def okN (k n:Int) (s:Str) (m:Nat):Bool:=
 if k=1 then (n == 0 || n == 1) && s.isEmpty && decide (m=0)
 else if k=2 then s.isEmpty && decide (m=0)
 else if k=3 then numS s && n == 0 && decide (m=0)
 else if k=4 then n == 0 && decide (m=0)
 else if k=5 then n == 0 && s.isEmpty && decide (m≠1)
 else if k=6 then n == 0 && namesS s
 else false
def fitN (k:Int) (s:Str) (m:Nat):Bool:=
 if k=3 then decide (digits s≤200)
 else if k=4 then decide (s.length≤4096)
 else if k=5 then decide (m≤16)
 else if k=6 then decide (m≤8)
 else true
mutual
def formV:V→Bool
 | .mk k n s l=>okN k n s l.length && formVs l
def formVs:List V→Bool
 | []=>true
 | v::l=>formV v && formVs l
end
mutual
def fitsV:V→Bool
 | .mk k n s l=>fitN k s l.length && fitsVs l
def fitsVs:List V→Bool
 | []=>true
 | v::l=>fitsV v && fitsVs l
end
theorem QqK (v:V):formV v=(okN v.k v.n v.s v.l.length && formVs v.l):=by obtain ⟨k,n,s,l⟩:=v; rfl
theorem QqI (v:V):fitsV v=(fitN v.k v.s v.l.length && fitsVs v.l):=by obtain ⟨k,n,s,l⟩:=v; rfl
theorem Qld:∀ (a b:List V),formVs (a++b)=(formVs a && formVs b)
 | [],b=>by simp [formVs]
 | v::a,b=>by simp only [List.cons_append,formVs,Qld a b,Bool.and_assoc]
theorem Qlb:∀ (a b:List V),fitsVs (a++b)=(fitsVs a && fitsVs b)
 | [],b=>by simp [fitsVs]
 | v::a,b=>by simp only [List.cons_append,fitsVs,Qlb a b,Bool.and_assoc]
theorem Qqd {l:List V} {i:Nat} (h:i < l.length):formVs (l.take (i+1))=(formVs (l.take i) && formV l[i]):=by
 rw [List.take_add_one,List.getElem?_eq_getElem h,Option.toList_some,Qld]; simp [formVs]
theorem Qqc {l:List V} {i:Nat} (h:i < l.length):fitsVs (l.take (i+1))=(fitsVs (l.take i) && fitsV l[i]):=by
 rw [List.take_add_one,List.getElem?_eq_getElem h,Option.toList_some,Qlb]; simp [fitsVs]
theorem Ql4:∀ {l:List V} {v:V},v ∈ l→formV v=false→formVs l=false
 | w::l,v,h,hv=>by
  simp only [formVs]
  rcases List.mem_cons.1 h with rfl | h
  ·rw [hv]; rfl
  ·rw [Ql4 h hv,Bool.and_false]
theorem Qri:∀ {l:List V} {v:V},v ∈ l→formVs l=true→formV v=true:=fun h hl=>by
 cases hv:formV _ with
 | true=>rfl
 | false=>rw [Ql4 h hv] at hl; cases hl
def checkV (v:V):Int:=if dep v > 64 then 65 else if formV v=false then 4 else if fitsV v=false then 40 else 0
def mayV (v:V):Bool:=decide (checkV v=0)
theorem Qtj (v:V):mayV v=true↔dep v≤64∧formV v=true∧fitsV v=true:=by
 unfold mayV checkV
 rw [decide_eq_true_eq]
 by_cases h1:dep v > 64
 ·simp [h1]; omega
 ·rw [if_neg h1]
  cases hf:formV v <;> cases hg:fitsV v <;> simp <;> omega
mutual
def sameV:V→V→Bool
 | .mk k n s l,.mk k' n' s' l'=>k == k' && n == n' && decide (s=s') && sameVs l l'
def sameVs:List V→List V→Bool
 | [],[]=>true
 | v::l,w::m=>sameV v w && sameVs l m
 | _,_=>false
end
theorem Qtz {v w:V} (h:sameV v w=true):v=w:=by
 have key:∀ v:V,∀ w,sameV v w=true→v=w:=by
  refine V.rec_ (P:=fun v=>∀ w,sameV v w=true→v=w) fun v ih w h=>?_
  obtain ⟨k,n,s,l⟩:=v
  obtain ⟨k',n',s',l'⟩:=w
  simp only [sameV,Bool.and_eq_true,beq_iff_eq,decide_eq_true_eq] at h
  obtain ⟨⟨⟨rfl,rfl⟩,rfl⟩,h⟩:=h
  have:∀ (l m:List V),(∀ v ∈ l,∀ w,sameV v w=true→v=w)→sameVs l m=true→l=m:=by
   intro l
   induction l with
   | nil => intro m _ h; cases m with
    | nil=>rfl
    | cons _ _=>simp [sameVs] at h
   | cons v l ihl=>
    intro m hh h
    cases m with
    | nil=>simp [sameVs] at h
    | cons w m=>
     simp only [sameVs,Bool.and_eq_true] at h
     rw [hh v (List.mem_cons_self ..) w h.1,ihl m (fun v hv=>hh v (List.mem_cons_of_mem _ hv)) h.2]
  rw [this l l' ih h]
 exact key v w h
mutual
theorem Qok:∀ v:V,sameV v v=true
 | .mk k n s l=>by simp [sameV,Qny l]
theorem Qny:∀ l:List V,sameVs l l=true
 | []=>rfl
 | v::l=>by simp [sameVs,Qok v,Qny l]
end
theorem QsJ {v w:V}:sameV v w=true↔v=w:=⟨Qtz,fun h=>h ▸ Qok v⟩
end Sx
end

noncomputable section
set_option linter.unusedVariables false
set_option linter.unusedSimpArgs false
set_option maxRecDepth 10000
namespace Sx
section
open Go Go.Proofs
theorem Qlc {α β:Type} (f:α→List β) (z:Nat) (hz:∀ x,(f x).length=z):∀ (l:List α) (i:Nat) (x:α),l[i]? = some x→∀ (j:Nat) (v:β),(f x)[j]? = some v→(l.flatMap f)[i*z+j]? = some v
 | [],i,x,h,j,v,hv=>by simp at h
 | y::l,0,x,h,j,v,hv=>by
  simp at h; subst h
  rw [List.flatMap_cons,Nat.zero_mul,Nat.zero_add,List.getElem?_append_left (List.getElem?_eq_some_iff.1 hv).1]; exact hv
 | y::l,i+1,x,h,j,v,hv=>by
  have:=Qlc f z hz l i x (by simpa using h) j v hv
  rw [List.flatMap_cons,List.getElem?_append_right (by rw [hz,Nat.add_mul]; omega),hz]
  rw [show (i+1)*z+j - z=i*z+j by rw [Nat.add_mul]; omega]; exact this
abbrev TV:=Qe
theorem TV.c_len (x:TV):(Qe.c x).length=4:=rfl
mutual
def VIs (H:Heap):V→TV→Prop
 | .mk k n s l,x=>x.Kind=k∧x.N=n∧x.S=s∧∃ xs:List TV,rdsl H x.L (xs.flatMap Qe.c)∧x.L.len=xs.length∧VsAre H l xs
def VsAre (H:Heap):List V→List TV→Prop
 | [],[]=>True
 | v::l,x::xs=>VIs H v x∧VsAre H l xs
 | [],_::_=>False
 | _::_,[]=>False
end
/-- a row of values -/
def VRow (H:Heap) (t:Sl) (l:List V):Prop:=∃ xs:List TV,rdsl H t (xs.flatMap Qe.c)∧t.len=xs.length∧VsAre H l xs
theorem QhZ {H:Heap} {v:V} {x:TV}:VIs H v x↔x.Kind=v.k∧x.N=v.n∧x.S=v.s∧VRow H x.L v.l:=by obtain ⟨k,n,s,l⟩:=v; rfl
theorem VsAre.len {H:Heap}:∀ {l:List V} {xs:List TV},VsAre H l xs→l.length=xs.length
 | [],[],_=>rfl
 | v::l,x::xs,h=>by have:=VsAre.len h.2; simp [this]
theorem VsAre.get {H:Heap}:∀ {l:List V} {xs:List TV},VsAre H l xs→∀ (i:Nat) (v:V) (x:TV),l[i]? = some v→xs[i]? = some x→VIs H v x
 | [],[],_,i,v,x,h,_=>by simp at h
 | v::l,x::xs,h,0,v',x',h1,h2=>by simp at h1 h2; subst h1; subst h2; exact h.1
 | v::l,x::xs,h,i+1,v',x',h1,h2=>VsAre.get h.2 i v' x' (by simpa using h1) (by simpa using h2)
mutual
theorem VIs.le {A B:Heap} (h:A.le B):∀ {v:V} {x:TV},VIs A v x→VIs B v x
 | .mk k n s l,x,⟨h1,h2,h3,xs,h4,h5,h6⟩=>⟨h1,h2,h3,xs,Qf6 h h4,h5,VsAre.le h h6⟩
theorem VsAre.le {A B:Heap} (h:A.le B):∀ {l:List V} {xs:List TV},VsAre A l xs→VsAre B l xs
 | [],[],_=>trivial
 | v::l,x::xs,⟨h1,h2⟩=>⟨VIs.le h h1,VsAre.le h h2⟩
end
theorem VRow.le {A B:Heap} {t:Sl} {l:List V} (h:VRow A t l) (hle:A.le B):VRow B t l:=by
 obtain ⟨xs,h1,h2,h3⟩:=h
 exact ⟨xs,Qf6 hle h1,h2,h3.le hle⟩
theorem VRow.len {H:Heap} {t:Sl} {l:List V} (h:VRow H t l):t.len=l.length:=by
 obtain ⟨xs,h1,h2,h3⟩:=h
 rw [h2,h3.len]
theorem VIs.kind {H:Heap} {v:V} {x:TV} (h:VIs H v x):x.Kind=v.k:=(QhZ.1 h).1
theorem VIs.num {H:Heap} {v:V} {x:TV} (h:VIs H v x):x.N=v.n:=(QhZ.1 h).2.1
theorem VIs.txt {H:Heap} {v:V} {x:TV} (h:VIs H v x):x.S=v.s:=(QhZ.1 h).2.2.1
theorem VIs.row {H:Heap} {v:V} {x:TV} (h:VIs H v x):VRow H x.L v.l:=(QhZ.1 h).2.2.2
/-- one of a row's values -/
theorem VRow.ld {A H:Heap} {t:Sl} {l:List V} (h:VRow A t l) (hle:A.le H) {i:Nat} {x:Int} {K:TV→Prop} (hx:x=i) (hi:i < l.length) (k:∀ y,VIs A l[i] y→K y):ixa t x fun p=>ldT H Qe.c (p.1,p.2+x.toNat*4) K:=by
 have hl:=h.len
 obtain ⟨xs,h1,h2,h3⟩:=h
 have hi2:i < xs.length:=by omega
 have hg:=List.getElem?_eq_getElem hi2
 subst hx
 refine QtQ (Qf6 hle h1) (by omega) (by omega) (fun e=>?_) fun p _ hp=>⟨xs[i],?_,k _ (h3.get i _ _ (List.getElem?_eq_getElem hi) hg)⟩
 ·have:=Qlc Qe.c 4 TV.c_len xs i _ hg 0 _ rfl
  rw [e] at this; simp at this
 ·refine QjC fun j v hj => ?_
  have:=QlX hp _ _ (Qlc Qe.c 4 TV.c_len xs i _ hg j v hj)
  rw [show p.2+(i:Int).toNat*4+j=p.2+(i*4+j) by omega]; exact this
mutual
def VB:V→Prop
 | .mk k n s l=>(0≤k∧k≤255)∧(-9223372036854775808≤n∧n≤9223372036854775807)∧s.length≤140737488355328∧l.length≤140737488355328∧VBs l
def VBs:List V→Prop
 | []=>True
 | v::l=>VB v∧VBs l
end
theorem VBs.mem:∀ {l:List V},VBs l→∀ {v},v ∈ l→VB v
 | w::l,h,v,hv=>by
  rcases List.mem_cons.1 hv with rfl | hv
  ·exact h.1
  ·exact VBs.mem h.2 hv
theorem VB.k {v:V} (h:VB v):0≤v.k∧v.k≤255:=by obtain ⟨k,n,s,l⟩:=v; exact h.1
theorem VB.n {v:V} (h:VB v):-9223372036854775808≤v.n∧v.n≤9223372036854775807:=by obtain ⟨k,n,s,l⟩:=v; exact h.2.1
theorem VB.s {v:V} (h:VB v):v.s.length≤140737488355328:=by obtain ⟨k,n,s,l⟩:=v; exact h.2.2.1
theorem VB.l {v:V} (h:VB v):v.l.length≤140737488355328:=by obtain ⟨k,n,s,l⟩:=v; exact h.2.2.2.1
theorem VB.ls {v:V} (h:VB v):VBs v.l:=by obtain ⟨k,n,s,l⟩:=v; exact h.2.2.2.2
theorem VB.at {v:V} (h:VB v) {i:Nat} (hi:i < v.l.length):VB v.l[i]:=h.ls.mem (List.getElem_mem hi)
section
variable {B:Heap} {b:Nat} {m:Bool} {x:TV}
theorem Qq0 (h:B b=some (m,.row (Qe.c x))):rd B (b,0)=some (.int .u8 x.Kind)∧rd B (b,1)=some (.int .i64 x.N)∧rd B (b,2)=some (sv x.S)∧rd B (b,3)=some (slv x.L):=
 ⟨by rw [QaC h]; rfl,by rw [QaC h]; rfl,by rw [QaC h]; rfl,by rw [QaC h]; rfl⟩
theorem bxK {K:Int→Prop} (h:B b=some (m,.row (Qe.c x))) (k:K x.Kind):ldI B .u8 ((b,0).1,(b,0).2+0) K:=⟨_,(Qq0 h).1,k⟩
theorem bxN {K:Int→Prop} (h:B b=some (m,.row (Qe.c x))) (k:K x.N):ldI B .i64 ((b,0).1,(b,0).2+1) K:=⟨_,(Qq0 h).2.1,k⟩
theorem bxS {K:Str→Prop} (h:B b=some (m,.row (Qe.c x))) (k:K x.S):ldS B ((b,0).1,(b,0).2+2) K:=⟨_,(Qq0 h).2.2.1,k⟩
theorem bxL {K:Sl→Prop} (h:B b=some (m,.row (Qe.c x))) (k:K x.L):ldL B ((b,0).1,(b,0).2+3) K:=⟨_,(Qq0 h).2.2.2,k⟩
theorem bxV {K:TV→Prop} (h:B b=some (m,.row (Qe.c x))) (k:K x):ldT B Qe.c (b,0) K:=⟨x,Qg6 h fun j v hj=>by simpa using hj,k⟩
end
section
variable {C:Ctx} {H:Heap}
theorem Qn4 {v:V} {x:TV} {H:Heap} {m:Nat} {K:Int→Heap→Prop} (hv:VIs H v x) (hB:VB v) (hm:m≤1000) (k:∀ r:Nat,r≤m+1→r≤dep v→(r=dep v∨m+1≤r)→K r H):Qbl C x m K H:=by
 refine V.rec_ (P:=fun v=>∀ {x H} {m:Nat} {K:Int→Heap→Prop},VIs H v x→VB v→m≤1000→(∀ r:Nat,r≤m+1→r≤dep v→(r=dep v∨m+1≤r)→K r H)→Qbl C x m K H) (fun v ih=>?_) v hv hB hm k
 clear hv hB hm k m
 intro x H m K hv hB hm k
 apply Qbl.gh
 apply QnT
 unfold QkG
 intro b1 n1
 have hr:=hv.row
 have hl:=hr.len
 have hbl:=hB.l
 have hde:=Qvc v
 have hb1:(H.put b1 (.row (Qe.c x))) b1=some (true,.row (Qe.c x)):=Heap.put_same ..
 refine ⟨fun y H'=>H.le H'∧∃ r:Nat,y=(r:Int)∧r≤m∧r≤deps v.l∧(r=deps v.l∨m≤r),?_,?_⟩
 rotate_left
 ·rintro y H' ⟨hle,r,rfl,h0,h1,h2⟩
  rw [Q4 (by omega) (by omega)]
  have:=k (r+1) (by omega) (by omega) (by omega)
  exact ⟨H,Gh.le hle,by simpa using this⟩
 refine bxL hb1 ?_
 refine ⟨fun y H'=>∃ i r:Nat,y=((r:Int),(i:Int))∧i≤v.l.length∧H.le H'∧r≤m∧r≤deps (v.l.take i)∧(r=deps (v.l.take i)∨m≤r),fun y _=>v.l.length - y.2.toNat,⟨0,0,rfl,Nat.zero_le _,Heap.le_put n1,Nat.zero_le _,Nat.zero_le _,.inl (by simp [deps])⟩,?_⟩
 rintro _ H' ⟨i,r,rfl,hi,hle,hr0,hr1,hr2⟩
 have hdti:deps (v.l.take i)≤deps v.l:=by
  have h1:=QkP (v.l.take i) (v.l.drop i)
  rw [List.take_append_drop] at h1; omega
 dsimp only
 rw [hl]
 refine ift.of (fun h=>?_) (fun h=>?_)
 ·have hlt : i < v.l.length := by have := of_decide_eq_true h; omega
  have hmem:=List.getElem_mem hlt
  have hdl:=QrT hmem
  refine hr.ld hle rfl hlt fun y hy=>?_
  intro b20 n20
  refine ⟨_,Heap.put_same ..,by simp [Qe.c],?_⟩
  rw [Heap.put_put]
  have esp:splice (Qe.c Qe.zero) (b20,0).2 (Qe.c y)=Qe.c y:=rfl
  rw [esp]
  have hle2:=hle.trans (Heap.le_put n20 (g:=.row (Qe.c y)) (m:=true))
  refine ift.of (fun h=>?_) (fun h=>?_)
  ·have hge : m ≤ r := by have := of_decide_eq_true h; omega
   exact ⟨hle2,r,rfl,by omega,by omega,.inr hge⟩
  ·have hltm : r < m := by have := of_decide_eq_false h; omega
   refine bxV (Heap.put_same ..) ?_
   have em:w .i64 ((m:Int) - 1)=((m - 1:Nat):Int):=by rw [Q4 (by omega) (by omega)]; omega
   rw [em]
   refine ih _ hmem (hy.le hle2) (hB.at hlt) (by omega) fun q hq0 hq1 hq2=>?_
   have hdt:=QrU hlt
   rw [Q4 (by omega) (by omega)]
   refine ⟨⟨i+1,max q r,?_,by omega,hle2,by omega,by omega,?_⟩,by first | omega | (dsimp only; omega)⟩
   ·refine Prod.ext ?_ rfl
    dsimp only
    split <;> omega
   ·rw [hdt]; omega
 ·have hie : i = v.l.length := by have := of_decide_eq_false h; omega
  subst hie
  rw [List.take_length] at hr1 hr2
  exact ⟨hle,r,rfl,hr0,hr1,hr2⟩
end
end
section
open Go Go.Proofs
theorem u8eq (c:UInt8) (n:Nat) (hn:n < 256):((c.toNat:Int) == (n:Int))=decide (c=UInt8.ofNat n):=by
 rw [Bool.eq_iff_iff]; simp only [decide_eq_true_eq,beq_iff_eq]
 constructor
 ·intro h; exact UInt8.toNat_inj.1 (by rw [UInt8.toNat_ofNat']; omega)
 ·rintro rfl; rw [UInt8.toNat_ofNat']; omega
theorem e48 (c:UInt8):((c.toNat:Int) == 48)=decide (c=48):=u8eq c 48 (by omega)
theorem Qqu {α:Type} {p:α→Bool} {s:List α} {i:Nat} (h:i < s.length):(s.take (i+1)).all p=((s.take i).all p && p s[i]):=by
 rw [List.take_add_one,List.getElem?_eq_getElem h,Option.toList_some,List.all_append]; simp
theorem QtK {α:Type} {p:α→Bool} {s:List α} {x:α} (h:x ∈ s) (hp:p x=false):s.all p=false:=by
 rw [List.all_eq_false]; exact ⟨x,h,by simp [hp]⟩
theorem getE {s:Str} {i:Nat} (h:i < s.length):s[((i:Nat):Int).toNat]? = some s[i]:=by simp [h]
theorem getL {s:Str} (h:0 < s.length) {x:Int} (hx:x=(s.length:Int) - 1):s[x.toNat]? = some (s.getLast (List.ne_nil_of_length_pos h)):=by
 subst hx
 have:((s.length:Int) - 1).toNat=s.length - 1:=by omega
 rw [this,List.getElem?_eq_getElem (by omega),List.getLast_eq_getElem]
section
variable {C:Ctx} {H:Heap}
theorem QlF {s:Str} {K:Bool→Heap→Prop} (hs:s.length≤140737488355328) (k:K (nameS s) H):QdX C s K H:=by
 apply QoC
 unfold QlA
 refine ⟨fun b H'=>H=H'∧b=(s.isEmpty || decide (s.length > 32) || decide ((s.headD 0).toNat < 97)),?_,?_⟩
 ·refine ift.of (fun h => ⟨rfl, ?_⟩) (fun h => ?_)
  ·simp only [Bool.or_eq_true,decide_eq_true_eq,beq_iff_eq] at h
   rcases h with rfl | h
   ·rfl
   ·have : decide (s.length > 32) = true := by rw [decide_eq_true_eq]; omega
    rw [this]; simp
  ·cases s with
   | nil=>simp at h
   | cons c t=>
    refine ⟨c,by omega,rfl,rfl,?_⟩
    simp only [Bool.or_eq_false_iff,decide_eq_false_iff_not] at h
    have:decide ((c::t).length > 32)=false:=by rw [decide_eq_false_iff_not]; omega
    rw [this]
    simp only [List.isEmpty_cons,Bool.false_or,List.headD_cons]
    exact (decide_eq_decide.2 (by omega):decide ((c.toNat:Int) < 97)=decide (c.toNat < 97))
 rintro b _ ⟨rfl,rfl⟩
 refine ⟨fun b H'=>H=H'∧b=(s.isEmpty || decide (s.length > 32) || !lowC (s.headD 0)),?_,?_⟩
 ·refine ift.of (fun h => ⟨rfl, ?_⟩) (fun h => ?_)
  ·simp only [Bool.or_eq_true,decide_eq_true_eq] at h
   rcases h with (h | h) | h
   ·rw [h]; rfl
   ·have : decide (s.length > 32) = true := by rw [decide_eq_true_eq]; omega
    rw [this]; simp
   ·have : lowC (s.headD 0) = false := by unfold lowC; rw [decide_eq_false (by omega)]; rfl
    rw [this]; simp
  ·simp only [Bool.or_eq_false_iff,decide_eq_false_iff_not] at h
   cases s with
   | nil=>simp at h
   | cons c t=>
    refine ⟨c,by omega,rfl,rfl,?_⟩
    have:decide ((c::t).length > 32)=false:=by rw [decide_eq_false_iff_not]; omega
    rw [this]
    simp only [List.isEmpty_cons,Bool.false_or,List.headD_cons] at h ⊢
    unfold lowC
    rw [decide_eq_true (by omega:97≤c.toNat),Bool.true_and,← decide_not,decide_eq_decide]; omega
 rintro b _ ⟨rfl,rfl⟩
 refine ift.of (fun h=>?_) (fun h=>?_)
 ·have : nameS s = false := by
   unfold nameS
   simp only [Bool.or_eq_true,decide_eq_true_eq,Bool.not_eq_true'] at h
   rcases h with (h | h) | h
   ·rw [h]; rfl
   ·have : decide (s.length ≤ 32) = false := by rw [decide_eq_false_iff_not]; omega
    rw [this]; simp
   ·rw [h]; simp
  rw [this] at k; exact k
 have hn:nameS s=s.all nameC:=by
  unfold nameS
  simp only [Bool.or_eq_false_iff,decide_eq_false_iff_not,Bool.not_eq_false'] at h
  have:decide (s.length≤32)=true:=by rw [decide_eq_true_eq]; omega
  rw [h.1.1,this,h.2]; simp
 refine ⟨fun x H'=>∃ i:Nat,x=(i:Int)∧i≤s.length∧H=H'∧(s.take i).all nameC=true,fun x _=>s.length - x.toNat,⟨0,rfl,Nat.zero_le _,rfl,rfl⟩,?_⟩
 rintro x _ ⟨i,rfl,hi,rfl,ha⟩
 refine ift.of (fun h=>?_) (fun h=>?_)
 ·have hlt : i < s.length := by have := of_decide_eq_true h; omega
  refine ⟨s[i],by omega,getE hlt,?_⟩
  dsimp only
  have hm:=List.getElem_mem hlt
  have hat:=Qqu (p:=nameC) hlt
  generalize s[i]=c at *
  have e:(!(((((decide ((c.toNat:Int) ≥ 97)) && (decide ((c.toNat:Int)≤122))) || ((decide ((c.toNat:Int) ≥ 65)) && (decide ((c.toNat:Int)≤90)))) || ((decide ((c.toNat:Int) ≥ 48)) && (decide ((c.toNat:Int)≤57)))) || ((c.toNat:Int) == 95)))=!nameC c:=by
   unfold nameC lowC
   have h0:decide ((c.toNat:Int) ≥ 97)=decide (97≤c.toNat):=by rw [decide_eq_decide]; omega
   have h01:decide ((c.toNat:Int)≤122)=decide (c.toNat≤122):=by rw [decide_eq_decide]; omega
   have h1:decide ((c.toNat:Int) ≥ 65)=decide (65≤c.toNat):=by rw [decide_eq_decide]; omega
   have h2:decide ((c.toNat:Int)≤90)=decide (c.toNat≤90):=by rw [decide_eq_decide]; omega
   have h3:decide ((c.toNat:Int) ≥ 48)=decide (48≤c.toNat):=by rw [decide_eq_decide]; omega
   have h4:decide ((c.toNat:Int)≤57)=decide (c.toNat≤57):=by rw [decide_eq_decide]; omega
   have h5:((c.toNat:Int) == 95)=decide (c.toNat=95):=by
    rw [Bool.eq_iff_iff]; simp only [beq_iff_eq,decide_eq_true_eq]; omega
   rw [h0,h01,h1,h2,h3,h4,h5]
  rw [e]
  refine ift.of (fun h=>?_) (fun h=>?_)
  ·rw [hn,QtK hm (by simpa using h)] at k; exact k
  ·rw [Q4 (by omega) (by omega)]
   refine ⟨⟨i+1,by omega,by omega,rfl,?_⟩,by first | omega | (dsimp only; omega)⟩
   rw [hat,ha]; simpa using h
 ·have hie : i = s.length := by have := of_decide_eq_false h; omega
  rw [hie,List.take_length] at ha
  rw [hn,ha] at k; exact k
end
end
section
open Go Go.Proofs
theorem index_spec (c:UInt8):∀ s:Str,(Lib.indexByte s c = -1∧c ∉ s)∨∃ k:Nat,Lib.indexByte s c=(k:Int)∧∃ a b,s=a++c::b∧a.length=k∧c ∉ a
 | []=>.inl ⟨rfl,by simp⟩
 | b::s=>by
  unfold Lib.indexByte
  by_cases h:b=c
  ·subst h
   exact .inr ⟨0,by simp,[],s,rfl,rfl,by simp⟩
  ·have hb : (b == c) = false := by simpa using h
   rw [hb]
   rcases index_spec c s with ⟨h1,h2⟩ | ⟨k,h1,a,d,h2,h3,h4⟩
   ·left
    rw [h1]
    refine ⟨by simp,by simp [h2,Ne.symm h]⟩
   ·right
    refine ⟨k+1,?_,b::a,d,by rw [h2]; rfl,by simp [h3],by simp [h4,Ne.symm h]⟩
    rw [h1]
    have:((k:Int) == -1)=false:=by rw [beq_eq_false_iff_ne]; omega
    simp [this]
def setD (cs:List Value) (l:Str):List Value:=l.foldl (fun cs c=>cs.set c.toNat (.bool true)) cs
def setD0:List Value:=List.replicate 256 (.bool false)
def digS:Str:=[48,49,50,51,52,53,54,55,56,57]
theorem Qq1 (l:Str):∀ cs,(setD cs l).length=cs.length:=by
 induction l with
 | nil=>intro cs; rfl
 | cons c l ih=>intro cs; simp only [setD,List.foldl_cons] at ih ⊢; rw [ih]; simp
theorem QsK (l:Str) (c:UInt8) (cs:List Value):setD cs (l++[c])=(setD cs l).set c.toNat (.bool true):=by simp [setD]
theorem Qt4 (l:Str):∀ cs:List Value,cs.all Value.oneCell' = true→(setD cs l).all Value.oneCell' = true:=by
 induction l with
 | nil=>intro cs h; exact h
 | cons c l ih=>
  intro cs h
  simp only [setD,List.foldl_cons] at ih ⊢
  refine ih _ ?_
  rw [List.all_eq_true] at h ⊢
  intro x hx
  rcases List.mem_or_eq_of_mem_set hx with hx | rfl
  ·exact h x hx
  ·rfl
theorem QtB:∀ n:Nat,n < 256→(match (setD setD0 digS)[n]? with | some (.bool b)=>b == (decide (48≤n) && decide (n≤57)) | _=>false)=true:=by decide +kernel
theorem QtA (c:UInt8):(setD setD0 digS)[c.toNat]? = some (.bool (digC c)):=by
 have h:=QtB c.toNat c.toBitVec.isLt
 unfold digC
 generalize (setD setD0 digS)[c.toNat]? = o at *
 cases o with
 | none=>simp at h
 | some v=>cases v <;> simp at h ⊢; exact h
section
variable {C:Ctx} {H:Heap}
theorem Qjo {s p:Str} {K:Bool→Heap→Prop} (k:K (p.isPrefixOf s) H):Qag C s p K H:=by
 apply Qek
 unfold QbE
 refine ⟨fun b H'=>H=H'∧b=p.isPrefixOf s,?_,?_⟩
 ·refine ift.of (fun h => ?_) (fun h => ⟨rfl, ?_⟩)
  ·have hl : p.length ≤ s.length := by have := of_decide_eq_true h; omega
   refine ⟨by omega,by omega,by omega,s.take p.length,by simp,rfl,?_⟩
   rw [Bool.eq_iff_iff,List.isPrefixOf_iff_prefix,beq_iff_eq,List.prefix_iff_eq_take]
   exact ⟨fun h=>h.symm,fun h=>h.symm⟩
  ·have hl:=of_decide_eq_false h
   cases hh:p.isPrefixOf s with
   | false=>rfl
   | true=>
    have:=(List.isPrefixOf_iff_prefix.1 hh).length_le
    omega
 ·rintro b _ ⟨rfl,rfl⟩
  exact k
theorem Qpd {s p:Str} {K:Str→Heap→Prop} (k:K (if p.isPrefixOf s then s.drop p.length else s) H):Qdu C s p K H:=by
 apply Qjb
 unfold Qfd
 apply Qeg
 unfold Qbx
 refine Qjo ?_
 refine ift.of (fun h=>?_) (fun h=>?_)
 ·rw [if_pos h] at k
  have:=(List.isPrefixOf_iff_prefix.1 h).length_le
  exact ⟨by omega,by omega,by omega,_,by simp,k⟩
 ·rw [if_neg (by rw [h]; decide)] at k; exact k
theorem Qm0 {s:Str} {K:Str→Str→Bool→Heap→Prop} (hs:s.length≤140737488355328) (k:match cutD s with | some (a,b)=>K a b true H | none=>K s [] false H):Qen C s [46] K H:=by
 apply QnK
 unfold Qkx
 apply QfO
 unfold Qda
 have key:∀ {K:Int→Heap→Prop},K (Lib.indexByte s 46) H→Qbk C s [46] K H:=by
  intro K k
  apply Qfl
  unfold Qcr
  refine ift.of (fun h=>?_) (fun h=>?_)
  ·have hs : [46] = s := by simpa using h
   subst hs
   exact k
  ·refine QeZ rfl ⟨46, by omega, rfl, ?_⟩
   apply Qel
   unfold QbF
   exact k
 refine key ?_
 rcases index_spec 46 s with ⟨h1,h2⟩ | ⟨i,h1,a,b,h2,h3,h4⟩
 ·rw [h1]
  rw [QmZ s h2] at k
  exact Qet rfl k
 ·rw [h1]
  subst h2
  rw [QmY a b h4] at k
  subst h3
  simp only [List.length_append,List.length_cons] at hs
  refine QeZ (by rw [decide_eq_true_eq]; omega) ?_
  refine ⟨by omega,by omega,by simp; omega,a,by simp,?_⟩
  have e1:(([46]:Str).length:Int)=1:=rfl
  rw [e1,Q4 (by omega) (by omega)]
  refine ⟨by omega,by simp; omega,by omega,b,?_,k⟩
  have e2:((a.length:Int)+1).toNat=a.length+1:=by omega
  rw [List.take_of_length_le (by omega),e2,List.drop_append]
  simp
/-- the set of digits -/
def DSet (H:Heap) (b:Nat):Prop:=H b=some (true,.row (setD setD0 digS))
theorem QmV {b:Nat} {c:UInt8} {K:Bool→Heap→Prop} (h:DSet H b) (k:K (digC c) H):QaJ C (some (b,0)) (c.toNat:Int) K H:=by
 apply QfJ
 unfold QcU
 refine ⟨(b,0),rfl,by omega,by have:=c.toBitVec.isLt; have:c.toNat < 256:=this; omega,digC c,?_,k⟩
 rw [QaC h]
 have:=QtA c
 simpa using this
theorem QtF {b:Nat} {s:Str} {K:Str→Heap→Prop} (hs:s.length≤140737488355328) (h:DSet H b) (k:∀ t,t.length≤s.length→t.all digC=s.all digC→K t H):QbT C s (some (b,0)) K H:=by
 apply QgK
 unfold QdO
 refine ⟨fun t H'=>H=H'∧t.length≤s.length∧t.all digC=s.all digC,?_,?_⟩
 rotate_left
 ·rintro t _ ⟨rfl,h1,h2⟩
  exact k t h1 h2
 refine ⟨fun t H'=>H=H'∧t.length≤s.length∧t.all digC=s.all digC,fun t _=>t.length,⟨rfl,Nat.le_refl _,rfl⟩,?_⟩
 rintro t _ ⟨rfl,h1,h2⟩
 refine ift.of (fun hh=>?_) (fun hh=>⟨rfl,h1,h2⟩)
 have hl:0 < t.length:=by have:=of_decide_eq_true hh; omega
 have hne:=List.ne_nil_of_length_pos hl
 have hd:t.dropLast++[t.getLast hne]=t:=List.dropLast_concat_getLast hne
 rw [Q4 (by omega) (by omega)]
 refine ⟨t.getLast hne,by omega,getL hl rfl,?_⟩
 refine QmV h ?_
 refine ift.of (fun hc=>⟨rfl,h1,h2⟩) (fun hc=>?_)
 have e1:(t.take ((t.length:Int) - 1).toNat).drop (0:Int).toNat=t.dropLast:=by
  have:((t.length:Int) - 1).toNat=t.length - 1:=by omega
  rw [this,List.dropLast_eq_take]; simp
 refine ⟨by omega,by omega,by omega,_,e1.symm,?_⟩
 have hdl:=List.length_dropLast (xs:=t)
 refine ⟨⟨rfl,by omega,?_⟩,by dsimp only; omega⟩
 rw [← h2]
 conv=>rhs; rw [← hd]
 rw [List.all_append]
 simp at hc
 simp [hc]
theorem QtE {b:Nat} {s:Str} {K:Str→Heap→Prop} (hs:s.length≤140737488355328) (h:DSet H b) (k:∀ t,t.all digC=s.all digC→(t=[]∨t.all digC=false)→K t H):Qcb C s (some (b,0)) K H:=by
 apply Qhf
 unfold Qd5
 refine ⟨fun t H'=>H=H'∧t.all digC=s.all digC∧(t=[]∨t.all digC=false),?_,?_⟩
 rotate_left
 ·rintro t _ ⟨rfl,h1,h2⟩
  exact k t h1 h2
 refine ⟨fun t H'=>H=H'∧t.length≤s.length∧t.all digC=s.all digC,fun t _=>t.length,⟨rfl,Nat.le_refl _,rfl⟩,?_⟩
 rintro t _ ⟨rfl,h1,h2⟩
 cases t with
 | nil=>exact Qet rfl ⟨rfl,h2,.inl rfl⟩
 | cons c t=>
  refine QeZ (by rw [decide_eq_true_eq]; simp only [List.length_cons]; omega) ?_
  refine ⟨c,by omega,rfl,?_⟩
  refine QmV h ?_
  refine ift.of (fun hc=>⟨rfl,h2,.inr ?_⟩) (fun hc=>?_)
  ·simp at hc; simp [hc]
  ·refine ⟨by omega, by simp only [List.length_cons]; omega, by omega, t, ?_, ⟨rfl, by simp only [List.length_cons] at h1; omega, ?_⟩, by simp⟩
   ·rw [List.take_of_length_le (by omega)]; rfl
   ·rw [← h2]; simp at hc; simp [hc]
theorem QoZ {K:List Value→Bool→Heap→Prop} (k:K (setD setD0 digS) true H):Qaa C digS K H:=by
 apply Qaa.gh
 apply Qh2
 unfold Qez
 intro b n
 refine ⟨fun x H'=>∃ i:Nat,x=(i:Int)∧i≤10∧H' = H.put b (.row (setD setD0 (digS.take i))),fun x _=>10 - x.toNat,⟨0,rfl,by omega,rfl⟩,?_⟩
 rintro x _ ⟨i,rfl,hi,rfl⟩
 have hlen:(setD setD0 (digS.take i)).length=256:=by rw [Qq1]; simp [setD0]
 refine ift.of (fun h=>?_) (fun h=>?_)
 ·have hlt : i < digS.length := by have := of_decide_eq_true h; omega
  have hlt':i < 10:=hlt
  refine ⟨digS[i],by omega,getE hlt,?_⟩
  have hm:∀ c ∈ digS,c.toNat < 128:=by decide
  have h128:=hm _ (List.getElem_mem hlt)
  have htk:digS.take (i+1)=digS.take i++[digS[i]]:=by rw [List.take_add_one,List.getElem?_eq_getElem hlt]; rfl
  generalize digS[i]=c at *
  refine Qet (by rw [decide_eq_false_iff_not]; omega) ?_
  refine ⟨by omega,by omega,_,Heap.put_same ..,by rw [hlen]; simp; omega,?_⟩
  rw [Q4 (by omega) (by omega),Heap.put_put]
  refine ⟨⟨i+1,by omega,by omega,?_⟩,by first | omega | (dsimp only; omega)⟩
  rw [htk,QsK]
  have:(b,0).2+(c.toNat:Int).toNat*1=c.toNat:=by simp
  rw [this]
 ·have hi10 : i = 10 := by have := of_decide_eq_false h; have : digS.length = 10 := rfl; omega
  subst hi10
  have e:digS.take 10=digS:=rfl
  rw [e] at hlen ⊢
  have hr:∀ {B:Heap},B b=some (true,.row (setD setD0 digS))→rds B (b,0) (setD setD0 digS):=fun h=>Qg6 h fun j v hj=>by simpa using hj
  refine ⟨_,hlen,hr (Heap.put_same ..),hlen,Qt4 _ _ (by decide +kernel),_,Heap.put_same ..,by simp,?_⟩
  have esp:splice (setD setD0 digS) (b,0).2 (setD setD0 digS)=setD setD0 digS:=by
   unfold splice; simp
  rw [esp,Heap.put_put]
  exact ⟨_,hlen,hr (Heap.put_same ..),H,Gh.le (Heap.le_put n),k⟩
theorem Qry {s:Str} {K:Str→Heap→Prop} (hs:s.length≤140737488355328) (k:∀ t,(t=[]↔s.all digC=true)→K t H):QbH C s digS K H:=by
 apply QbH.gh
 apply QmE
 unfold QjG
 refine ift.of (fun h=>?_) (fun h=>?_)
 ·have : s = [] := by simpa [digS] using h
  subst this
  exact ⟨H,Gh.refl _,k [] (by simp)⟩
 refine ⟨fun b H'=>H=H'∧b=false,Qet rfl ⟨rfl,rfl⟩,?_⟩
 rintro _ _ ⟨rfl,rfl⟩
 refine Qet rfl ?_
 refine QoZ ?_
 intro b n
 have hlen:(setD setD0 digS).length=256:=by rw [Qq1]; simp [setD0]
 refine ⟨hlen,Qt4 _ _ (by decide +kernel),_,Heap.put_same ..,by rw [hlen]; simp,?_⟩
 have esp:splice (List.replicate 256 (.bool false:Value)) (b,0).2 (setD setD0 digS)=setD setD0 digS:=by
  unfold splice; simp [hlen]
 rw [esp,Heap.put_put]
 refine QeZ rfl ?_
 refine QtF hs (Heap.put_same ..) fun t ht1 ht2=>?_
 refine QtE (by omega) (Heap.put_same ..) fun u hu1 hu2=>?_
 refine ⟨H,Gh.le (Heap.le_put n),k u ?_⟩
 rw [← ht2,← hu1]
 constructor
 ·rintro rfl; rfl
 ·intro h
  rcases hu2 with h2 | h2
  ·exact h2
  ·rw [h] at h2; cases h2
theorem QnB {s:Str} {K:Int→Bool→Heap→Prop} (hs:s.length≤140737488355328) (k:K (if numS s then (digits s:Int) else 0) (numS s) H):QgU C s K H:=by
 apply QmR
 unfold QjT
 refine Qpd ?_
 have e:(if ([45]:Str).isPrefixOf s then s.drop ([45]:Str).length else s)=unmin s:=by
  unfold unmin
  cases s with
  | nil=>rfl
  | cons c t=>
   by_cases hc:c=45
   ·subst hc; simp [List.isPrefixOf]
   ·simp [List.isPrefixOf,hc,Ne.symm hc]
 rw [e]
 have hul:(unmin s).length≤s.length:=by unfold unmin; split <;> simp
 have hdg:digits s=(unmin s).length:=rfl
 have hnu:numS s=(!(unmin s).isEmpty && (unmin s).all digC && !(decide ((unmin s).head? = some 48) && decide (s≠[48]))):=rfl
 rw [hdg,hnu] at k
 clear hdg hnu e
 generalize unmin s=d at *
 refine ⟨fun b H'=>H=H'∧b=!(!d.isEmpty && d.all digC),?_,?_⟩
 ·refine ift.of (fun h => ⟨rfl, ?_⟩) (fun h => ?_)
  ·have : d = [] := by simpa using h
   subst this; rfl
  ·have hne : d ≠ [] := by simpa using h
   refine Qry (by omega) fun t ht=>⟨rfl,?_⟩
   have he : d.isEmpty = false := by cases d with
    | nil=>exact absurd rfl hne
    | cons _ _=>rfl
   rw [he]
   cases hd:d.all digC with
   | true=>rw [ht.2 hd]; rfl
   | false=>
    have:t≠[]:=fun e=>by rw [ht.1 e] at hd; cases hd
    simpa using this
 rintro b _ ⟨rfl,rfl⟩
 refine ⟨fun b H'=>H=H'∧b=!(!d.isEmpty && d.all digC && !(decide (d.head? = some 48) && decide (s≠[48]))),?_,?_⟩
 ·refine ift.of (fun h => ⟨rfl, ?_⟩) (fun h => ?_)
  ·simp only [Bool.not_eq_true'] at h
   rw [h]; rfl
  ·simp only [Bool.not_eq_false'] at h
   rw [h]
   cases d with
   | nil=>simp at h
   | cons c t=>
    refine ⟨c,by omega,rfl,rfl,?_⟩
    rw [e48]
    simp only [List.head?_cons,Option.some.injEq,Bool.true_and,Bool.not_not]
    congr 1
    rw [decide_not]; congr 1
    rw [Bool.eq_iff_iff]; simp
 rintro b _ ⟨rfl,rfl⟩
 refine ift.of (fun h=>?_) (fun h=>?_)
 ·simp only [Bool.not_eq_true'] at h
  rw [h] at k; exact k
 ·simp only [Bool.not_eq_false'] at h
  rw [h] at k; exact k
end
end
section
open Go Go.Proofs
section
variable {C:Ctx} {H:Heap}
theorem sEmpty {s:Str}:(s == ([]:Str))=s.isEmpty:=by cases s <;> rfl
theorem lenZ {l:List V} {n:Nat} (h:n=l.length) (m:Nat):((n:Int) == (m:Int))=decide (l.length=m):=by
 rw [Bool.eq_iff_iff]; simp only [beq_iff_eq,decide_eq_true_eq]; omega
end
end
section
open Go Go.Proofs
theorem Qsp (s:Str):namesS s=(match cutD s with | some (a,b)=>nameS a && nameS b | none=>nameS s && !decide (s=trueS) && !decide (s=falseS)):=by
 unfold namesS
 by_cases ht:s=trueS
 ·subst ht; rfl
 by_cases hf:s=falseS
 ·subst hf; rfl
 rw [if_neg (fun h=>h.elim ht hf)]
 cases hc:cutD s with
 | none=>simp [ht,hf]
 | some p=>rfl
section
variable {C:Ctx} {H:Heap}
theorem Quv {v:V} {x:TV} {H:Heap} {K:Bool→Bool→Heap→Prop} (hv:VIs H v x) (hB:VB v) (k:∀ g,(formV v=true→g=fitsV v)→K (formV v) g H):Qal C x K H:=by
 refine V.rec_ (P:=fun v=>∀ {x H} {K:Bool→Bool→Heap→Prop},VIs H v x→VB v→(∀ g,(formV v=true→g=fitsV v)→K (formV v) g H)→Qal C x K H) (fun v ih=>?_) v hv hB k
 clear hv hB k
 intro x H K hv hB k
 apply Qal.gh
 apply Qk7
 unfold QgF
 intro b1 n1
 have hr:=hv.row
 have hl:=hr.len
 have hbl:=hB.l
 have hbs:=hB.s
 have hk:=hv.kind
 have hn:=hv.num
 have ht:=hv.txt
 have hb1:(H.put b1 (.row (Qe.c x))) b1=some (true,.row (Qe.c x)):=Heap.put_same ..
 have hle1:=Heap.le_put n1 (g:=.row (Qe.c x)) (m:=true)
 generalize H.put b1 (.row (Qe.c x))=H1 at *
 refine bxN hb1 ?_
 refine ⟨fun b H'=>H1=H',?_,?_⟩
 ·exact ift.of (fun _=>bxS hb1 rfl) (fun _=>rfl)
 rintro _ _ rfl
 refine ⟨fun b H'=>H1=H',?_,?_⟩
 ·exact ift.of (fun _=>bxL hb1 rfl) (fun _=>rfl)
 rintro _ _ rfl
 refine ⟨fun b H'=>H1=H'∧b.1=okN v.k v.n v.s v.l.length∧(b.1=true→b.2=fitN v.k v.s v.l.length),?_,?_⟩
 rotate_left
 ·rintro ⟨o,g⟩ _ ⟨rfl,ho,hg⟩
  dsimp only at ho hg ⊢
  subst ho
  refine bxL hb1 ?_
  refine ⟨fun y H'=>∃ i:Nat,y.2.2=(i:Int)∧i≤v.l.length∧H.le H'∧y.1=(okN v.k v.n v.s v.l.length && formVs (v.l.take i))∧(y.1=true→y.2.1=(fitN v.k v.s v.l.length && fitsVs (v.l.take i))),fun y _=>v.l.length - y.2.2.toNat,⟨0,rfl,Nat.zero_le _,hle1,by simp [formVs],fun h=>by simp [fitsVs,hg h]⟩,?_⟩
  rintro ⟨f,g',y⟩ H2 ⟨i,hy,hi,hle,h1,h2⟩
  dsimp only at hy h1 h2
  subst hy
  dsimp only
  rw [hl]
  refine ift.of (fun h=>?_) (fun h=>?_)
  ·have hlt : i < v.l.length := by have := of_decide_eq_true h; omega
   have hmem:=List.getElem_mem hlt
   refine hr.ld hle rfl hlt fun z hz=>?_
   intro b20 n20
   refine ⟨_,Heap.put_same ..,by simp [Qe.c],?_⟩
   rw [Heap.put_put]
   have esp:splice (Qe.c Qe.zero) (b20,0).2 (Qe.c z)=Qe.c z:=rfl
   rw [esp]
   have hle2:=hle.trans (Heap.le_put n20 (g:=.row (Qe.c z)) (m:=true))
   refine bxV (Heap.put_same ..) ?_
   refine ih _ hmem (hz.le hle2) (hB.at hlt) fun q hq=>?_
   rw [Q4 (by omega) (by omega)]
   refine ⟨⟨i+1,by omega,by omega,hle2,?_,fun hh=>?_⟩,by first | omega | (dsimp only; omega)⟩
   ·rw [h1,Qqd hlt,Bool.and_assoc]
   ·rw [Bool.and_eq_true] at hh
    rw [h2 hh.1,Qqc hlt,hq hh.2,Bool.and_assoc]
  ·have hie : i = v.l.length := by have := of_decide_eq_false h; omega
   subst hie
   rw [List.take_length] at h1 h2
   rw [← QqK] at h1
   rw [← QqI] at h2
   refine ⟨H,Gh.le hle,?_⟩
   rw [h1] at h2 ⊢
   exact k g' h2
 refine bxK hb1 ?_
 rw [hk]
 refine ift.of (fun h=>?_) (fun h=>?_)
 ·have h : v.k = 1 := by simpa using h
  have eo:okN v.k v.n v.s v.l.length=((v.n == 0 || v.n == 1) && v.s.isEmpty && decide (v.l.length=0)):=by rw [h]; rfl
  have ef:fitN v.k v.s v.l.length=true:=by rw [h]; rfl
  rw [eo,ef]
  refine bxN hb1 ?_
  refine ⟨fun b H'=>H1=H'∧b=(v.n == 0 || v.n == 1),?_,?_⟩
  ·rw [hn]
   refine ift.of (fun h=>⟨rfl,by rw [h]; rfl⟩) (fun h=>?_)
   refine bxN hb1 ⟨rfl,?_⟩
   rw [h,hn]; rfl
  rintro _ _ ⟨rfl,rfl⟩
  refine ⟨fun b H'=>H1=H'∧b=((v.n == 0 || v.n == 1) && v.s.isEmpty),?_,?_⟩
  ·refine ift.of (fun h => ?_) (fun h => ⟨rfl, by rw [h]; rfl⟩)
   refine bxS hb1 ⟨rfl,?_⟩
   rw [h,ht,sEmpty]; rfl
  rintro _ _ ⟨rfl,rfl⟩
  refine ⟨fun b H'=>H1=H'∧b=((v.n == 0 || v.n == 1) && v.s.isEmpty && decide (v.l.length=0)),?_,?_⟩
  ·refine ift.of (fun h => ?_) (fun h => ⟨rfl, by rw [h]; rfl⟩)
   refine bxL hb1 ⟨rfl,?_⟩
   rw [h]; exact lenZ hl 0
  rintro _ _ ⟨rfl,rfl⟩
  exact ⟨rfl,rfl,fun _=>rfl⟩
 have g1:v.k≠1:=by simpa using h
 refine ift.of (fun h=>?_) (fun h=>?_)
 ·have h : v.k = 2 := by simpa using h
  have eo:okN v.k v.n v.s v.l.length=(v.s.isEmpty && decide (v.l.length=0)):=by rw [h]; rfl
  have ef:fitN v.k v.s v.l.length=true:=by rw [h]; rfl
  rw [eo,ef]
  refine bxS hb1 ?_
  refine ⟨fun b H'=>H1=H'∧b=(v.s.isEmpty && decide (v.l.length=0)),?_,?_⟩
  ·rw [ht,sEmpty]
   refine ift.of (fun h=>?_) (fun h=>⟨rfl,by rw [h]; rfl⟩)
   refine bxL hb1 ⟨rfl,?_⟩
   rw [h]; exact lenZ hl 0
  rintro _ _ ⟨rfl,rfl⟩
  exact ⟨rfl,rfl,fun _=>rfl⟩
 have g2:v.k≠2:=by simpa using h
 refine ift.of (fun h=>?_) (fun h=>?_)
 ·have h : v.k = 3 := by simpa using h
  have eo:okN v.k v.n v.s v.l.length=(numS v.s && v.n == 0 && decide (v.l.length=0)):=by rw [h]; rfl
  have ef:fitN v.k v.s v.l.length=decide (digits v.s≤200):=by rw [h]; rfl
  rw [eo,ef]
  refine bxS hb1 ?_
  rw [ht]
  refine QnB hbs ?_
  refine ⟨fun b H'=>H1=H'∧b=(numS v.s && v.n == 0),?_,?_⟩
  ·refine ift.of (fun h => ?_) (fun h => ⟨rfl, by rw [h]; rfl⟩)
   refine bxN hb1 ⟨rfl,?_⟩
   rw [h,hn]; rfl
  rintro _ _ ⟨rfl,rfl⟩
  refine ⟨fun b H'=>H1=H'∧b=(numS v.s && v.n == 0 && decide (v.l.length=0)),?_,?_⟩
  ·refine ift.of (fun h => ?_) (fun h => ⟨rfl, by rw [h]; rfl⟩)
   refine bxL hb1 ⟨rfl,?_⟩
   rw [h]; exact lenZ hl 0
  rintro _ _ ⟨rfl,rfl⟩
  refine ⟨rfl,rfl,fun hh=>?_⟩
  dsimp only at hh ⊢
  simp only [Bool.and_eq_true] at hh
  rw [hh.1.1,if_pos rfl,decide_eq_decide]; omega
 have g3:v.k≠3:=by simpa using h
 refine ift.of (fun h=>?_) (fun h=>?_)
 ·have h : v.k = 4 := by simpa using h
  have eo:okN v.k v.n v.s v.l.length=(v.n == 0 && decide (v.l.length=0)):=by rw [h]; rfl
  have ef:fitN v.k v.s v.l.length=decide (v.s.length≤4096):=by rw [h]; rfl
  rw [eo,ef]
  have ed:decide ((v.s.length:Int)≤4096)=decide (v.s.length≤4096):=by rw [decide_eq_decide]; omega
  refine ⟨fun b H'=>H1=H'∧b=((v.n == 0 && decide (v.l.length=0)),decide (v.s.length≤4096)),?_,?_⟩
  ·refine ⟨H1,Heap.le.refl _,bxN hb1 (bxS hb1 ?_)⟩
   rw [hn,ht,ed]
   refine ift.of (fun h=>?_) (fun h=>⟨rfl,by rw [h]; rfl⟩)
   refine bxL hb1 ⟨rfl,?_⟩
   rw [h,show ((x.L.len:Int) == 0)=decide (v.l.length=0) from lenZ hl 0]; rfl
  rintro _ _ ⟨rfl,rfl⟩
  exact ⟨rfl,rfl,fun _=>rfl⟩
 have g4:v.k≠4:=by simpa using h
 refine ift.of (fun h=>?_) (fun h=>?_)
 ·have h : v.k = 5 := by simpa using h
  have eo:okN v.k v.n v.s v.l.length=(v.n == 0 && v.s.isEmpty && decide (v.l.length≠1)):=by rw [h]; rfl
  have ef:fitN v.k v.s v.l.length=decide (v.l.length≤16):=by rw [h]; rfl
  rw [eo,ef]
  have ed:decide ((x.L.len:Int)≤16)=decide (v.l.length≤16):=by rw [decide_eq_decide]; omega
  refine ⟨fun b H'=>H1=H'∧b=((v.n == 0 && v.s.isEmpty && decide (v.l.length≠1)),decide (v.l.length≤16)),?_,?_⟩
  ·refine ⟨H1,Heap.le.refl _,bxN hb1 (bxL hb1 ?_)⟩
   rw [hn,ed]
   refine ift.of (fun h=>?_) (fun h=>⟨rfl,by rw [h]; rfl⟩)
   refine bxS hb1 ?_
   rw [ht,sEmpty]
   refine ift.of (fun h2=>?_) (fun h2=>⟨rfl,by rw [h2]; simp⟩)
   refine bxL hb1 ⟨rfl,?_⟩
   rw [h,h2,bne,show ((x.L.len:Int) == 1)=decide (v.l.length=1) from lenZ hl 1,decide_not]; rfl
  rintro _ _ ⟨rfl,rfl⟩
  exact ⟨rfl,rfl,fun _=>rfl⟩
 have g5:v.k≠5:=by simpa using h
 refine ift.of (fun h=>?_) (fun h=>?_)
 ·have h : v.k = 6 := by simpa using h
  have eo:okN v.k v.n v.s v.l.length=(v.n == 0 && namesS v.s):=by rw [h]; rfl
  have ef:fitN v.k v.s v.l.length=decide (v.l.length≤8):=by rw [h]; rfl
  rw [eo,ef]
  have ed:decide ((x.L.len:Int)≤8)=decide (v.l.length≤8):=by rw [decide_eq_decide]; omega
  refine bxS hb1 ?_
  rw [ht]
  refine Qm0 hbs ?_
  have key:∀ (a b:Str) (two:Bool),a.length≤140737488355328→b.length≤140737488355328→namesS v.s=(if two then nameS a && nameS b else nameS a && !decide (v.s=trueS) && !decide (v.s=falseS))→
   jn (α := Bool × Bool) (fun x118 H119 => H1 = H119 ∧ x118.1 = (v.n == 0 && namesS v.s) ∧ (x118.1 = true → x118.2 = decide (v.l.length ≤ 8)))
    (fun J117=>dr H1 fun Hs121=>
    ldI Hs121 .i64 ((b1,0).1,(b1,0).2+1) fun x123=>
    ldL Hs121 ((b1,0).1,(b1,0).2+3) fun x125=>
    ift ((x123:Int) == 0)
    (QdX C a (fun r129 H130=>
    Heap.le Hs121 H130∧
    ift r129
    (ift two
    (QdX C b (fun r134 H135=>
    Heap.le Hs121 H135∧
    ift r134
    (J117 (true,(decide (((Sl.len x125:Int):Int)≤8))) H135)
    (ift (!two)
    (ldS Hs121 ((b1,0).1,(b1,0).2+2) fun x138=>
    ift (!(x138 == ([116,114,117,101]:Str)))
    (ldS Hs121 ((b1,0).1,(b1,0).2+2) fun x141=>
    J117 ((!(x141 == ([102,97,108,115,101]:Str))),(decide (((Sl.len x125:Int):Int)≤8))) H135)
    (J117 (false,(decide (((Sl.len x125:Int):Int)≤8))) H135))
    (J117 (false,(decide (((Sl.len x125:Int):Int)≤8))) H135))) H130)
    (ift (!two)
    (ldS Hs121 ((b1,0).1,(b1,0).2+2) fun x144=>
    ift (!(x144 == ([116,114,117,101]:Str)))
    (ldS Hs121 ((b1,0).1,(b1,0).2+2) fun x147=>
    J117 ((!(x147 == ([102,97,108,115,101]:Str))),(decide (((Sl.len x125:Int):Int)≤8))) H130)
    (J117 (false,(decide (((Sl.len x125:Int):Int)≤8))) H130))
    (J117 (false,(decide (((Sl.len x125:Int):Int)≤8))) H130)))
    (J117 (false,(decide (((Sl.len x125:Int):Int)≤8))) H130)) H1)
    (J117 (false,(decide (((Sl.len x125:Int):Int)≤8))) H1)):=by
   intro a b two ha hb hns
   refine ⟨fun y H'=>H1=H'∧y=((v.n == 0 && namesS v.s),decide (v.l.length≤8)),?_,?_⟩
   ·refine ⟨H1,Heap.le.refl _,bxN hb1 (bxL hb1 ?_)⟩
    rw [hn,ed]
    refine ift.of (fun h=>?_) (fun h=>⟨rfl,by rw [h]; rfl⟩)
    refine QlF ha ⟨Heap.le.refl _,?_⟩
    rw [h,hns]
    refine ift.of (fun h2=>?_) (fun h2=>⟨rfl,by rw [h2]; cases two <;> rfl⟩)
    rw [h2]
    have eq:∀ t:Str,(v.s == t)=decide (v.s=t):=fun t=>by rw [Bool.eq_iff_iff]; simp
    cases two with
    | true=>
     refine QeZ rfl ?_
     refine QlF hb ⟨Heap.le.refl _,?_⟩
     exact ift.of (fun h3=>⟨rfl,by rw [h3]; rfl⟩) (fun h3=>Qet rfl ⟨rfl,by rw [h3]; rfl⟩)
    | false=>
     refine Qet rfl (QeZ rfl ?_)
     refine bxS hb1 ?_
     rw [ht,show (v.s == ([116,114,117,101]:Str))=decide (v.s=trueS) from eq _]
     refine ift.of (fun h3=>?_) (fun h3=>⟨rfl,?_⟩)
     ·refine bxS hb1 ⟨rfl,?_⟩
      rw [ht,show (v.s == ([102,97,108,115,101]:Str))=decide (v.s=falseS) from eq _,h3]; rfl
     ·rw [h3]; rfl
   ·rintro _ _ ⟨rfl,rfl⟩
    exact ⟨rfl,rfl,fun _=>rfl⟩
  have hc:=Qsp v.s
  cases hcd:cutD v.s with
  | none=>
   rw [hcd] at hc
   exact key _ _ _ hbs (by simp) hc
  | some p=>
   obtain ⟨a,b⟩:=p
   rw [hcd] at hc
   have hlen:a.length≤v.s.length∧b.length≤v.s.length:=by
    by_cases hm:(46:UInt8) ∈ v.s
    ·obtain ⟨a',b',e1,e2⟩:=Qmx _ hm
     have:=QmY a' b' e2
     rw [← e1,hcd] at this
     injection this with this; injection this with h1 h2
     subst h1; subst h2
     rw [e1]; simp; omega
    ·rw [QmZ _ hm] at hcd; cases hcd
   exact key _ _ _ (by omega) (by omega) hc
 have g6:v.k≠6:=by simpa using h
 have eo:okN v.k v.n v.s v.l.length=false:=by unfold okN; rw [if_neg g1,if_neg g2,if_neg g3,if_neg g4,if_neg g5,if_neg g6]
 rw [eo]
 exact ⟨rfl,rfl,fun hh=>by cases hh⟩
theorem QkI {v:V} {x:TV} {H:Heap} {K:Int→Heap→Prop} (hv:VIs H v x) (hB:VB v) (k:K (checkV v) H):QbB C x K H:=by
 apply QbB.gh
 apply QnS
 unfold QkF
 intro b1 n1
 have hb1:(H.put b1 (.row (Qe.c x))) b1=some (true,.row (Qe.c x)):=Heap.put_same ..
 have hle1:=Heap.le_put n1 (g:=.row (Qe.c x)) (m:=true)
 generalize H.put b1 (.row (Qe.c x))=H1 at *
 unfold checkV at k
 refine bxV hb1 (Qn4 (m:=65) (hv.le hle1) hB (by omega) fun r h0 h1 h2=>?_)
 refine ift.of (fun h=>?_) (fun h=>?_)
 ·have h:=of_decide_eq_true h
  rw [if_pos (by omega)] at k
  exact ⟨H,Gh.le hle1,k⟩
 have h:=of_decide_eq_false h
 rw [if_neg (by omega)] at k
 refine bxV hb1 (Quv (hv.le hle1) hB fun g hg=>?_)
 refine ift.of (fun h=>?_) (fun h=>?_)
 ·have h : formV v = false := by simpa using h
  rw [if_pos h] at k
  exact ⟨H,Gh.le hle1,k⟩
 have hf:formV v=true:=by simpa using h
 rw [if_neg (by rw [hf]; decide)] at k
 rw [hg hf]
 refine ift.of (fun h=>?_) (fun h=>?_)
 ·have h : fitsV v = false := by simpa using h
  rw [if_pos h] at k
  exact ⟨H,Gh.le hle1,k⟩
 have hf:fitsV v=true:=by simpa using h
 rw [if_neg (by rw [hf]; decide)] at k
 exact ⟨H,Gh.le hle1,k⟩
end
end
section
open Go Go.Proofs
section
variable {C:Ctx} {H:Heap}
theorem Qti (v:V):((checkV v:Int) == 0)=mayV v:=by unfold mayV; rw [Bool.eq_iff_iff]; simp
theorem Qol:∀ {l m:List V},sameVs l m=true→l.length=m.length
 | [],[],_=>rfl
 | [],_::_,h=>by simp [sameVs] at h
 | _::_,[],h=>by simp [sameVs] at h
 | v::l,w::m,h=>by
  simp only [sameVs,Bool.and_eq_true] at h
  have:=Qol h.2
  simp [this]
theorem Qp1 {l m:List V} {s t:Sl} {H:Heap} {K:Bool→Heap→Prop} (hs:VRow H s l) (ht:VRow H t m) (hl:l.length≤140737488355328)
 (ih:∀ v ∈ l,∀ w,∀ {x y:TV} {K:Bool→Heap→Prop},VIs H v x→VIs H w y→w ∈ m→K (sameV v w) H→Qbm C x y K H) (k:K (sameVs l m) H):QfU C s t K H:=by
 apply Qml
 unfold QiC
 rw [hs.len,ht.len]
 by_cases hlm:l.length=m.length
 rotate_left
 ·refine QeZ (by simp; omega) ?_
  cases hh:sameVs l m with
  | true=>exact absurd (Qol hh) hlm
  | false=>rw [hh] at k; exact k
 refine Qet (by simp; omega) ?_
 refine ⟨fun x H'=>∃ i:Nat,x=(i:Int)∧i≤l.length∧H=H'∧sameVs l m=sameVs (l.drop i) (m.drop i),fun x _=>l.length - x.toNat,⟨0,rfl,Nat.zero_le _,rfl,rfl⟩,?_⟩
 rintro x _ ⟨i,rfl,hi,rfl,ha⟩
 refine ift.of (fun h=>?_) (fun h=>?_)
 ·have h1 : i < l.length := by have := of_decide_eq_true h; omega
  have h2:i < m.length:=by omega
  have m1:=List.getElem_mem h1
  have m2:=List.getElem_mem h2
  rw [List.drop_eq_getElem_cons h1,List.drop_eq_getElem_cons h2] at ha
  simp only [sameVs] at ha
  refine ⟨H,Heap.le.refl _,?_⟩
  refine hs.ld (Heap.le.refl _) rfl h1 fun y hy=>?_
  refine ht.ld (Heap.le.refl _) rfl h2 fun z hz=>?_
  refine ih _ m1 _ hy hz m2 ⟨Heap.le.refl _,?_⟩
  refine ift.of (fun h=>?_) (fun h=>?_)
  ·have h : sameV l[i] m[i] = false := by simpa using h
   rw [ha,h] at k; exact k
  ·have h : sameV l[i] m[i] = true := by simpa using h
   rw [h,Bool.true_and] at ha
   rw [Q4 (by omega) (by omega)]
   exact ⟨⟨i+1,by omega,by omega,rfl,ha⟩,by first | omega | (dsimp only; omega)⟩
 ·have hie : i = l.length := by have := of_decide_eq_false h; omega
  rw [hie,List.drop_length,hlm,List.drop_length] at ha
  rw [ha] at k; exact k
theorem QsI (v w:V):sameV v w=(v.k == w.k && v.n == w.n && decide (v.s=w.s) && sameVs v.l w.l):=by
 obtain ⟨k,n,s,l⟩:=v
 obtain ⟨k',n',s',l'⟩:=w
 simp only [sameV,V.k,V.n,V.s,V.l]
 rfl
theorem Qub {v w:V} {x y:TV} {H:Heap} {K:Bool→Heap→Prop} (hv:VIs H v x) (hw:VIs H w y) (hB:VB v) (k:K (sameV v w) H):Qbm C x y K H:=by
 refine V.rec_ (P:=fun v=>∀ {w x y H} {K:Bool→Heap→Prop},VIs H v x→VIs H w y→VB v→K (sameV v w) H→Qbm C x y K H) (fun v ih=>?_) v hv hw hB k
 clear hv hw hB k
 intro w x y H K hv hw hB k
 apply Qbm.gh
 apply Qou
 unfold Qls
 intro b1 n1 b3 n3
 have hb3:((H.put b1 (.row (Qe.c x))).put b3 (.row (Qe.c y))) b3=some (true,.row (Qe.c y)):=Heap.put_same ..
 have hne:b1≠b3:=fun e=>by rw [e,Heap.put_same] at n3; cases n3
 have hb1:((H.put b1 (.row (Qe.c x))).put b3 (.row (Qe.c y))) b1=some (true,.row (Qe.c x)):=by rw [Heap.put_ne _ _ _ hne,Heap.put_same]
 have hle:=(Heap.le_put n1 (g:=.row (Qe.c x)) (m:=true)).trans (Heap.le_put n3 (g:=.row (Qe.c y)) (m:=true))
 generalize (H.put b1 (.row (Qe.c x))).put b3 (.row (Qe.c y))=H1 at *
 have k':∃ H0,Gh C H1 H0∧K (sameV v w) H0:=⟨H,Gh.le hle,k⟩
 rw [QsI] at k'
 refine bxK hb1 (bxK hb3 ?_)
 rw [hv.kind,hw.kind]
 refine ⟨fun b H'=>H1=H'∧b=(v.k == w.k && v.n == w.n),?_,?_⟩
 ·refine ift.of (fun h => ?_) (fun h => ⟨rfl, by rw [h]; rfl⟩)
  refine bxN hb1 (bxN hb3 ⟨rfl,?_⟩)
  rw [h,hv.num,hw.num]; rfl
 rintro _ _ ⟨rfl,rfl⟩
 refine ⟨fun b H'=>H1=H'∧b=(v.k == w.k && v.n == w.n && decide (v.s=w.s)),?_,?_⟩
 ·refine ift.of (fun h => ?_) (fun h => ⟨rfl, by rw [h]; rfl⟩)
  refine bxS hb1 (bxS hb3 ⟨rfl,?_⟩)
  rw [h,hv.txt,hw.txt,Bool.true_and,Bool.eq_iff_iff]; simp
 rintro _ _ ⟨rfl,rfl⟩
 refine ⟨fun b H'=>H1=H'∧b=(v.k == w.k && v.n == w.n && decide (v.s=w.s) && sameVs v.l w.l),?_,?_⟩
 ·refine ift.of (fun h => ?_) (fun h => ⟨rfl, by rw [h]; rfl⟩)
  refine bxL hb1 (bxL hb3 ?_)
  refine Qp1 (hv.row.le hle) (hw.row.le hle) hB.l (fun p hp q {x' y'} {K'} hx hy _ kk=>ih p hp hx hy (hB.ls.mem hp) kk) ⟨rfl,?_⟩
  rw [h]; rfl
 rintro _ _ ⟨rfl,rfl⟩
 exact k'
end
end
section
open Go
section
variable {H:Type} {enc:TypeId×Value→H} {P:Program} {W:World}
/-- a slice that came in: its elements' cells and data -/
theorem Ql1 {t e : TypeId} {n : Nat} {cs : List Value} {x : DataW H × List MemPlace} (ht : P.underlying t = some (.slice e)) (hz0 : 0 < P.cellsOf e) (h : DataW.trod enc P W 0 (fun _ => true) true n t cs = some x) :
 ∃ (s:Sl) (css:List (List Value)) (ys:List (DataW H×List MemPlace)) (m:Nat),m < n∧cs=[slv s]∧s.len≤s.cap∧css.length=s.len∧ys.length=s.len∧rdsl (heapOf W) s css.flatten∧sizeDs (ys.map (·.1))+1≤sizeD x.1∧
  ∀ (i:Nat) (c:List Value) (y:DataW H×List MemPlace),css[i]? = some c→ys[i]? = some y→c.length=P.cellsOf e∧DataW.trod enc P W 0 (fun _=>true) true m e c=some y:=by
 rcases DataW.trod_slice ht h with ⟨h0,hx⟩ | ⟨a,len,cap,elems,rest,m,rfl,hcs,hx,hb,hl,hm,hlen,hel,hsp,hns⟩
 ·have : 0 < n := by cases n with
   | zero=>simp [DataW.trod] at h
   | succ n=>omega
  exact ⟨Sl.nil,[],[],0,this,h0,Nat.le_refl _,rfl,rfl,.inl rfl,by rw [hx]; simp [sizeD,sizeDs],fun i c y hc=>by simp at hc⟩
 ·have hall : ∀ i, i < len → ∃ c, W.cells? 0 (a.add (i * P.cellsOf e)) (P.cellsOf e) = some c ∧ ∀ y, elems[i]? = some y → DataW.trod enc P W 0 (fun _ => true) true m e c = some y := by
   intro i hi
   have h1:=hel i hi
   have h2:i < elems.length:=by omega
   rw [List.getElem?_eq_getElem h2] at h1
   rw [Option.bind_eq_some_iff] at h1
   obtain ⟨c,hc,ht⟩:=h1
   exact ⟨c,hc,fun y hy=>by rw [List.getElem?_eq_getElem h2] at hy; injection hy with hy; subst hy; exact ht⟩
  obtain ⟨css,hcl,hcss⟩:=listOf hall
  obtain ⟨b,o,sp⟩:=a
  refine ⟨⟨some (b,o),len,cap,sp⟩,css,elems,m,Nat.lt_succ_self _,by rw [hcs]; rfl,hl,hcl,hlen,?_,by rw [hx]; simp only [sizeD]; omega,fun i c y hc hy=>?_⟩
  ·rcases Nat.eq_zero_or_pos len with h0 | h0
   ·left
    have:css=[]:=List.length_eq_zero_iff.1 (by omega)
    simp [this]
   ·obtain ⟨c0,hc0,_⟩:=hall 0 h0
    obtain ⟨_,hl0,hcell0⟩:=World.cells?_some hc0
    have hsp0:sp=none:=by
     have h1:=hcell0 0 hz0
     rw [List.getElem?_eq_getElem (by omega)] at h1
     have:=QmU h1
     simpa [Addr.add] using this
    subst hsp0
    right
    refine ⟨rfl,(b,o),rfl,Qpa (z:=P.cellsOf e) (fun c hc=>?_) fun i c hc=>?_⟩
    ·obtain ⟨i,hi,rfl⟩:=List.getElem_of_mem hc
     obtain ⟨h1,_⟩:=hcss i _ (List.getElem?_eq_getElem hi)
     exact (World.cells?_some h1).2.1
    ·obtain ⟨h1,_⟩:=hcss i c hc
     obtain ⟨_,hcl1,hcell⟩:=World.cells?_some h1
     refine QjC fun j v hj=>QpM ?_
     have hjl:j < P.cellsOf e:=by rw [← hcl1]; exact (List.getElem?_eq_some_iff.1 hj).1
     have h2:=hcell j hjl
     rw [hj] at h2
     rw [← h2]
     have e1:(⟨b,o,none⟩:Addr)=adv (b,o):=rfl
     rw [e1,Qfp,Qfp]
  ·obtain ⟨h1,h2⟩:=hcss i c hc
   exact ⟨(World.cells?_some h1).2.1,h2 y hy⟩
/-- the type of values -/
structure ValT (P:Program) (t tl:TypeId):Prop where
 st:∃ fs:Array Field,P.underlying t=some (.struct fs)∧fs.size=4∧(∃ f tk,fs[0]? = some f∧f.type=tk∧f.offset=0∧P.underlying tk=some (.int .u8)∧P.cellsOf tk=1)∧(∃ f tk,fs[1]? = some f∧f.type=tk∧f.offset=1∧P.underlying tk=some (.int .i64)∧P.cellsOf tk=1)∧(∃ f tk,fs[2]? = some f∧f.type=tk∧f.offset=2∧P.underlying tk=some .string∧P.cellsOf tk=1)∧(∃ f,fs[3]? = some f∧f.type=tl∧f.offset=3∧P.cellsOf tl=1)
 cells:P.cellsOf t=4
 sl:P.underlying tl=some (.slice t)
mutual
def vbulk:V→Nat
 | .mk k n s l=>vbulks l+s.length+1
def vbulks:List V→Nat
 | []=>0
 | v::l=>vbulk v+vbulks l
end
theorem Qq8 (v:V):vbulk v=vbulks v.l+v.s.length+1:=by obtain ⟨k,n,s,l⟩:=v; rfl
theorem Qor:∀ l:List V,l.length≤vbulks l
 | []=>by simp [vbulks]
 | v::l=>by have:=Qor l; have:=Qq8 v; simp only [vbulks,List.length_cons]; omega
theorem Qtu {t tl:TypeId} (hT:ValT P t tl) {css:List (List Value)} {ys:List (DataW H×List MemPlace)} {m:Nat} {s:Sl} (hl:css.length=s.len) (hy:ys.length=s.len) (hr:rdsl (heapOf W) s css.flatten)
 (ih:∀ (i:Nat) (c:List Value) (y:DataW H×List MemPlace),css[i]? = some c→ys[i]? = some y→∃ (v:V) (x:TV),c=Qe.c x∧VIs (heapOf W) v x∧VB v∧vbulk v≤sizeD y.1) :
 ∃ l:List V,VRow (heapOf W) s l∧VBs l∧vbulks l≤sizeDs (ys.map (·.1)):=by
 have key:∀ (css:List (List Value)) (ys:List (DataW H×List MemPlace)),css.length=ys.length→(∀ (i:Nat) (c:List Value) (y:DataW H×List MemPlace),css[i]? = some c→ys[i]? = some y→∃ (v:V) (x:TV),c=Qe.c x∧VIs (heapOf W) v x∧VB v∧vbulk v≤sizeD y.1)→
  ∃ (l:List V) (xs:List TV),css.flatten=xs.flatMap Qe.c∧css.length=xs.length∧VsAre (heapOf W) l xs∧VBs l∧vbulks l≤sizeDs (ys.map (·.1)):=by
  intro css
  induction css with
  | nil=>intro ys h _; exact ⟨[],[],rfl,rfl,trivial,trivial,by simp [vbulks]⟩
  | cons c css ihc=>
   intro ys h hh
   cases ys with
   | nil=>simp at h
   | cons y ys=>
    obtain ⟨v,x,h1,h2,h3,h4⟩:=hh 0 c y rfl rfl
    obtain ⟨l,xs,g1,g2,g3,g4,g5⟩:=ihc ys (by simpa using h) fun i c' y' a b=>hh (i+1) c' y' (by simpa using a) (by simpa using b)
    refine ⟨v::l,x::xs,by rw [List.flatten_cons,List.flatMap_cons,g1,h1],by simp [g2],⟨h2,g3⟩,⟨h3,g4⟩,?_⟩
    simp only [vbulks,List.map_cons,sizeDs]; omega
 obtain ⟨l,xs,g1,g2,g3,g4,g5⟩:=key css ys (by omega) ih
 exact ⟨l,⟨xs,by rw [← g1]; exact hr,by omega,g3⟩,g4,g5⟩
theorem QvG {t tl:TypeId} (hT:ValT P t tl):∀ (n:Nat) {cs:List Value} {x:DataW H×List MemPlace},DataW.trod enc P W 0 (fun _=>true) true n t cs=some x→sizeD x.1≤1000000000→∃ (v:V) (y:TV),cs=Qe.c y∧VIs (heapOf W) v y∧VB v∧vbulk v≤sizeD x.1:=by
 intro n
 induction n using Nat.strongRecOn with
 | _ n ih=>
 intro cs x h hsz
 obtain ⟨fs,hu,hfs,⟨f0,t0,a0,b0,c0,d0,e0⟩,⟨f1,t1,a1,b1,c1,d1,e1⟩,⟨f2,t2,a2,b2,c2,d2,e2⟩,⟨f3,a3,b3,c3,e3⟩⟩:=hT.st
 obtain ⟨xs,m,rfl,hx,hl,hxl,hf⟩:=DataW.trod_struct hu h
 rw [hT.cells] at hl
 rw [hfs] at hxl
 match cs,hl with
 | [q0,q1,q2,q3],_=>
 match xs,hxl with
 | [y0,y1,y2,y3],_=>
 have g0:=hf 0 f0 a0
 have g1:=hf 1 f1 a1
 have g2:=hf 2 f2 a2
 have g3:=hf 3 f3 a3
 rw [b0,c0,e0] at g0
 rw [b1,c1,e1] at g1
 rw [b2,c2,e2] at g2
 rw [b3,c3,e3] at g3
 simp at g0 g1 g2 g3
 obtain ⟨n0,k0,k1,k2⟩:=DataW.trod_int d0 g0
 obtain ⟨n1,l0,l1,l2⟩:=DataW.trod_int d1 g1
 obtain ⟨s2,m0,m1,m2⟩:=DataW.trod_string d2 g2
 obtain ⟨s,css,ys,m',hm',p0,p1,p2,p3,p4,p5,p6⟩:=Ql1 hT.sl (by rw [hT.cells]; omega) g3
 have hsx:sizeD x.1=sizeD y0.1+(sizeD y1.1+(sizeD y2.1+(sizeD y3.1+0)))+1:=by rw [hx]; simp [sizeD,sizeDs]
 have h0:=QlB y0.1
 have h1:=QlB y1.1
 have h2:sizeD y2.1=s2.data.toList.length+1:=by rw [m1]; simp [sizeD]
 obtain ⟨l,r1,r2,r3⟩:=Qtu (H:=H) hT p2 p3 p4 (m:=m') fun i c y hc hy=>by
  obtain ⟨_,h5⟩:=p6 i c y hc hy
  have h6:=QhX (List.mem_map_of_mem (f:=(·.1)) (List.mem_of_getElem? hy))
  exact ih m' (by omega) h5 (by omega)
 have hvl:=Qor l
 refine ⟨.mk n0 n1 s2.data.toList l,⟨n0,n1,s2.data.toList,s⟩,?_,QhZ.2 ⟨rfl,rfl,rfl,r1⟩,⟨?_,?_,by omega,by omega,r2⟩,?_⟩
 ·injection k0 with k0
  injection l0 with l0
  injection m0 with m0
  injection p0 with p0
  subst k0; subst l0; subst m0; subst p0
  simp [Qe.c,sv]
 ·simpa [Lit.wf,IntKind.min,IntKind.max,IntKind.signed,IntKind.bits] using k2
 ·simpa [Lit.wf,IntKind.min,IntKind.max,IntKind.signed,IntKind.bits] using l2
 ·rw [Qq8]
  simp only [V.l,V.s]
  omega
end
end
section
open Go
section
variable {H:Type} {enc:TypeId×Value→H} {P:Program} {W:World}
end
end
section
open Go
def hexD (k:Nat):UInt8:=if k < 10 then UInt8.ofNat (48+k) else UInt8.ofNat (87+k)
def qC (c:UInt8):Str:=
 if c=34∨c=92 then [92,c] else if c=10 then [92,110] else if c=9 then [92,116]
 else if 32≤c.toNat∧c.toNat≤126 then [c] else [92,120,hexD (c.toNat / 16),hexD (c.toNat % 16)]
def quoteS (s:Str):Str:=34::(s.flatMap qC++[34])
mutual
def showV:V→Str
 | .mk k n s l => if k = 1 then (if n = 1 then trueS else falseS) else if k = 2 then Lib.itoa n else if k = 3 then s ++ [98] else if k = 4 then quoteS s
  else if k=5 then 40::(showR true l++[41]) else s++(if l.length=0 then [] else 40::(showR true l++[41]))
def showR:Bool→List V→Str
 | _,[]=>[]
 | f,v::l=>(if f then [] else [44,32])++(showV v++showR false l)
end
theorem Qom:∀ (l:List V) (f:Bool) (v:V),showR f (l++[v])=showR f l++((if f && l.isEmpty then [] else [44,32])++showV v)
 | [],f,v=>by cases f <;> simp [showR]
 | w::l,f,v=>by
  rw [List.cons_append]
  simp only [showR,Qom l false v,List.isEmpty_cons,Bool.and_false,Bool.false_and,Bool.false_eq_true,if_false,List.append_assoc]
theorem Qmf:∀ (a b:List V) (f:Bool),showR f (a++b)=showR f a++showR (f && a.isEmpty) b
 | [],b,f=>by simp [showR]
 | v::a,b,f=>by
  rw [List.cons_append]
  simp only [showR,Qmf a b false,List.isEmpty_cons,Bool.and_false,Bool.false_and,List.append_assoc]
theorem QsL (l:List V) (i:Nat):(showR true (l.take i)).length≤(showR true l).length:=by
 have:=congrArg List.length (Qmf (l.take i) (l.drop i) true)
 rw [List.take_append_drop,List.length_append] at this
 omega
theorem Qrw {l:List V} {i:Nat} (h:i < l.length):showR true (l.take (i+1))=showR true (l.take i)++((if i=0 then [] else [44,32])++showV l[i]):=by
 rw [List.take_add_one,List.getElem?_eq_getElem h,Option.toList_some,Qom]
 congr 2
 have e:(l.take i).isEmpty=decide (i=0):=by
  rw [Bool.eq_iff_iff,List.isEmpty_iff,decide_eq_true_iff]
  refine ⟨fun h2=>?_,fun h2=>by rw [h2]; rfl⟩
  have:=congrArg List.length h2
  rw [List.length_take,List.length_nil] at this; omega
 rw [Bool.true_and,e]
 by_cases hi:i=0 <;> simp [hi]
def stopC (c:UInt8):Bool:=c == 40 || c == 41 || c == 44 || c == 59 || c == 34
theorem QqX {v:V} (h:formV v=true):formVs v.l=true∧((v.k=1∧(v.n=0∨v.n=1)∧v.s=[]∧v.l=[])∨(v.k=2∧v.s=[]∧v.l=[])∨(v.k=3∧numS v.s=true∧v.n=0∧v.l=[])∨(v.k=4∧v.n=0∧v.l=[])∨
 (v.k=5∧v.n=0∧v.s=[])∨(v.k=6∧v.n=0∧namesS v.s=true)):=by
 rw [QqK,Bool.and_eq_true] at h
 obtain ⟨h,h2⟩:=h
 refine ⟨h2,?_⟩
 unfold okN at h
 split at h
 ·rename_i hk
  simp only [Bool.and_eq_true,Bool.or_eq_true,beq_iff_eq,List.isEmpty_iff,decide_eq_true_eq,List.length_eq_zero_iff] at h
  exact .inl ⟨hk,h.1.1,h.1.2,h.2⟩
 split at h
 ·rename_i hk
  simp only [Bool.and_eq_true,beq_iff_eq,List.isEmpty_iff,decide_eq_true_eq,List.length_eq_zero_iff] at h
  exact .inr (.inl ⟨hk,h.1,h.2⟩)
 split at h
 ·rename_i hk
  simp only [Bool.and_eq_true,beq_iff_eq,decide_eq_true_eq,List.length_eq_zero_iff] at h
  exact .inr (.inr (.inl ⟨hk,h.1.1,h.1.2,h.2⟩))
 split at h
 ·rename_i hk
  simp only [Bool.and_eq_true,beq_iff_eq,decide_eq_true_eq,List.length_eq_zero_iff] at h
  exact .inr (.inr (.inr (.inl ⟨hk,h.1,h.2⟩)))
 split at h
 ·rename_i hk
  simp only [Bool.and_eq_true,beq_iff_eq,List.isEmpty_iff] at h
  exact .inr (.inr (.inr (.inr (.inl ⟨hk,h.1.1,h.1.2⟩))))
 split at h
 ·rename_i hk
  simp only [Bool.and_eq_true,beq_iff_eq] at h
  exact .inr (.inr (.inr (.inr (.inr ⟨hk,h.1,h.2⟩))))
 ·cases h
theorem QlS {c:UInt8} (h:nameC c=true):stopC c=false:=by
 simp only [nameC,lowC,Bool.or_eq_true,Bool.and_eq_true,decide_eq_true_eq] at h
 unfold stopC
 simp only [Bool.or_eq_false_iff,beq_eq_false_iff_ne]
 refine ⟨⟨⟨⟨?_,?_⟩,?_⟩,?_⟩,?_⟩ <;> (rintro rfl; revert h; decide)
theorem QkT {s:Str} (h:nameS s=true):s≠[]∧s.length≤32∧lowC (s.headD 0)=true∧∀ c ∈ s,nameC c=true:=by
 simp only [nameS,Bool.and_eq_true,Bool.not_eq_true',List.isEmpty_eq_false_iff,decide_eq_true_eq,List.all_eq_true] at h
 exact ⟨h.1.1.1,h.1.1.2,h.1.2,h.2⟩
theorem QpC {s:Str} (h:namesS s=true):s≠trueS∧s≠falseS∧s≠[]∧s.length≤65∧lowC (s.headD 0)=true∧∀ c ∈ s,stopC c=false:=by
 unfold namesS at h
 split at h
 ·cases h
 rename_i hne
 refine ⟨fun e=>hne (.inl e),fun e=>hne (.inr e),?_⟩
 split at h
 ·rename_i a b hab
  rw [Bool.and_eq_true] at h
  obtain ⟨h1,h2,h3,h4⟩:=QkT h.1
  obtain ⟨g1,g2,g3,g4⟩:=QkT h.2
  have hs:s=a++46::b:=by
   by_cases hm:(46:UInt8) ∈ s
   ·obtain ⟨x,y,e1,e2⟩:=Qmx s hm
    rw [e1,QmY x y e2] at hab
    injection hab with hab; injection hab with e3 e4
    rw [e1,e3,e4]
   ·rw [QmZ s hm] at hab; cases hab
  rw [hs]
  refine ⟨by simp,by rw [List.length_append,List.length_cons]; omega,?_,fun c hc=>?_⟩
  ·cases a with
   | nil=>exact absurd rfl h1
   | cons x a=>exact h3
  ·rw [List.mem_append,List.mem_cons] at hc
   rcases hc with hc | rfl | hc
   ·exact QlS (h4 c hc)
   ·rfl
   ·exact QlS (g4 c hc)
 ·obtain ⟨h1,h2,h3,h4⟩:=QkT h
  exact ⟨h1,by omega,h3,fun c hc=>QlS (h4 c hc)⟩
theorem Qrq {s:Str} (h:numS s=true):s≠[]∧(∀ c ∈ s,digC c=true∨c=45)∧s.length≤digits s+1:=by
 simp only [numS,Bool.and_eq_true,Bool.not_eq_true',List.isEmpty_eq_false_iff,List.all_eq_true] at h
 obtain ⟨⟨h1,h2⟩,h3⟩:=h
 unfold digits
 unfold unmin at h1 h2 ⊢
 split at h1
 ·rename_i hh
  rw [if_pos hh] at h2 ⊢
  cases s with
  | nil=>cases hh
  | cons c s=>
   simp only [List.head?_cons,Option.some.injEq] at hh
   subst hh
   refine ⟨by simp,fun d hd=>?_,by simp⟩
   rcases List.mem_cons.1 hd with rfl | hd
   ·exact .inr rfl
   ·exact .inl (h2 d hd)
 ·rename_i hh
  rw [if_neg hh] at h2 ⊢
  exact ⟨h1,fun d hd=>.inl (h2 d hd),by omega⟩
theorem Qtp (c:UInt8):((c=34∨c=92)∧qC c=[92,c])∨(c=10∧qC c=[92,110])∨(c=9∧qC c=[92,116])∨(c≠34∧c≠92∧qC c=[c])∨qC c=[92,120,hexD (c.toNat / 16),hexD (c.toNat % 16)]:=by
 unfold qC
 by_cases h1:c=34∨c=92
 ·rw [if_pos h1]; exact .inl ⟨h1,rfl⟩
 rw [if_neg h1]
 by_cases h2:c=10
 ·rw [if_pos h2]; exact .inr (.inl ⟨h2,rfl⟩)
 rw [if_neg h2]
 by_cases h3:c=9
 ·rw [if_pos h3]; exact .inr (.inr (.inl ⟨h3,rfl⟩))
 rw [if_neg h3]
 split
 ·exact .inr (.inr (.inr (.inl ⟨fun e=>h1 (.inl e),fun e=>h1 (.inr e),rfl⟩)))
 ·exact .inr (.inr (.inr (.inr rfl)))
theorem QtI {c d:UInt8} (h:c.toNat=d.toNat):c=d:=UInt8.toNat_inj.1 h
end
section
open Go Go.Proofs
section
variable {C:Ctx} {H:Heap} {T:TypeId}
/-- a builder lies first in what is of this type -/
def LiB (T:TypeId):Prop:=liesAt Tryz.prog Tryz.prog.depth T (2 / Tryz.prog.cellsOf T) 0 145 1=true
theorem liB145:LiB 145:=by unfold LiB; kernel_rfl
theorem liB147:LiB 147:=by unfold LiB; kernel_rfl
theorem Ql3 {b:Nat} {p:Option (Nat×Nat)} {s:Sl} {K:Heap→Prop} (hb:H b=some (true,.trow T 0 [pv p,slv s])) (hp:p=none∨p=some (b,0)) (hT:LiB T) (k:K (H.put b (.trow T 0 [pv (some (b,0)),slv s]))):QaI C (some (b,0)) K H:=by
 apply QfI
 unfold QcT
 refine ⟨_,rfl,p,by simp [rd,hb,GO.cells?],?_⟩
 rcases hp with rfl | rfl
 ·exact QeZ rfl ⟨(b,0),rfl,⟨true,_,0,_,hb,by simp⟩,⟨T,true,0,_,hb,rfl,rfl,hT⟩,_,rfl,_,0,_,hb,Nat.le_refl _,by simp,k⟩
 ·refine Qet rfl ⟨_, rfl, some (b, 0), by simp [rd, hb, GO.cells?], (b, 0), rfl, rfl, Qet rfl ?_⟩
  have:H.put b (.trow T 0 [pv (some (b,0)),slv s])=H:=Heap.put_id hb
  rw [this] at k; exact k
theorem Qt2 {H:Heap} {b:Nat} {p:Option (Nat×Nat)} {s:Sl} {t:TypeId} (hb:H b=some (true,.trow t 0 [pv p,slv s])):rd H (b,0+1)=some (slv s):=by simp [rd,hb,GO.cells?]
theorem Qi8 {b:Nat} {bs:Str} {c:UInt8} {K:Value→Heap→Prop} (h:IsB T tyE H b bs) (hT:LiB T) (hl:bs.length+1≤140737488355328) (k:K .nilIface (H.put b (.bld T tyE (bs++[c])))):Qq C (some (b,0)) (c.toNat:Int) K H:=by
 apply Qq.gh
 refine h.open_ fun p s H' ho=>?_
 refine QfH _ _ _ _ _ ?_
 unfold QcS
 refine Ql3 ho.row ho.self hT ?_
 have ho2:=ho.setP (p2:=some (b,0)) (.inr rfl)
 refine ⟨_,rfl,s,Qt2 ho2.row,?_⟩
 refine ho2.apd (by obtain ⟨g,hg⟩:=h.some; exact ⟨_,hg⟩) (ys:=[c]) (by simpa using hl) fun r H3 h3 hr=>?_
 exact ⟨_,rfl,_,0,_,hr,Nat.zero_le _,by simp,_,Gh.hideB h3,k⟩
theorem Qkg {b:Nat} {bs c:Str} {K:Int→Value→Heap→Prop} (h:IsB T tyE H b bs) (hT:LiB T) (hl:bs.length+c.length≤140737488355328) (k:K (c.length:Int) .nilIface (H.put b (.bld T tyE (bs++c)))):Ql C (some (b,0)) c K H:=by
 apply Ql.gh
 refine h.open_ fun p s H' ho=>?_
 refine Qe3 _ _ _ _ _ ?_
 unfold Qb4
 refine Ql3 ho.row ho.self hT ?_
 have ho2:=ho.setP (p2:=some (b,0)) (.inr rfl)
 refine ⟨_,rfl,s,Qt2 ho2.row,?_⟩
 refine ho2.apd (by obtain ⟨g,hg⟩:=h.some; exact ⟨_,hg⟩) (ys:=c) hl fun r H3 h3 hr=>?_
 exact ⟨_,rfl,_,0,_,hr,Nat.zero_le _,by simp,_,Gh.hideB h3,k⟩
theorem Qpg {b:Nat} {bs:Str} {K:Str→Heap→Prop} (h:IsB T tyE H b bs) (hT:LiB T) (hl:bs.length≤9223372036854775807) (k:K bs (H.put b (.bld T tyE bs))):QK C (some (b,0)) K H:=by
 apply QK.gh
 refine h.open_ fun p s H' ho=>?_
 refine QgJ _ _ _ _ ?_
 unfold QdN
 obtain ⟨e1,e2,e3⟩:=ho.slen
 have hrd:rd (H'.hide s) (b,0+1)=some (slv s):=by
  have:(H'.hide s) b=H' b:=by
   unfold Heap.hide
   split
   ·rename_i q hq; rw [if_neg (fun e=>ho.ne q hq e.symm)]
   ·rfl
  simp [rd,this,ho.row,GO.cells?]
 refine ⟨H'.hide s,Heap.hide_le _ _,_,rfl,s,hrd,⟨e3,e2⟩,_,rfl,s,hrd,?_⟩
 rcases ho.buf with ⟨rfl,rfl⟩ | ⟨g,kk,row,hg,rfl,hgr,hk,hr0,hrl,hcs⟩
 ·exact .inl ⟨rfl,Heap.hide_le _ _,_,Gh.hideB ho,k⟩
 ·by_cases h0:bs=[]
  ·subst h0
   exact .inl ⟨rfl,Heap.hide_le _ _,_,Gh.hideB ho,k⟩
  ·refine .inr ⟨g, kk, row, bs, rfl, hgr, rfl, h0, hl, hcs, fun x v hx => ?_, _, Gh.hideB (b := b) (T := T) (e := tyE) (bs := bs) (p := p) (s := ⟨some (g, 0), bs.length, row.length, none⟩) ?_, k⟩
   ·have hxg : x ≠ g := fun e => by subst e; simp [Heap.hide] at hx
    rw [Heap.put_ne _ _ _ hxg]; exact (Heap.hide_le _ _) _ _ hx
   ·refine ⟨ho.self, by rw [Heap.put_ne _ _ _ (Ne.symm hg)]; exact ho.row, .inr ⟨g, max kk bs.length, row, hg, rfl, Heap.put_same .., by omega, hr0, hrl, hcs⟩, ho.gnot, fun x v hx hv => ?_⟩
    have hxg:x≠g:=fun e=>by subst e; have:=ho.gnot (x,0) rfl; dsimp only at this; rw [this] at hv; cases hv
    rw [Heap.put_ne _ _ _ hxg]; exact ho.but x v hx hv
end
end
section
open Go Go.Proofs
section
variable {C:Ctx} {H:Heap}
theorem Qos {b:Bool} {K:Str→Heap→Prop} (k:K (if b then trueS else falseS) H):Qdt C b K H:=by
 apply Qja
 unfold Qfc
 apply Qe2
 unfold Qb3
 cases b with
 | true=>exact QeZ rfl k
 | false=>exact Qet rfl k
theorem hexS {k:Nat} (h:k < 16):([48,49,50,51,52,53,54,55,56,57,97,98,99,100,101,102]:Str)[k]? = some (hexD k):=by
 have:∀ k:Fin 16,([48,49,50,51,52,53,54,55,56,57,97,98,99,100,101,102]:Str)[k.val]? = some (hexD k.val):=by decide
 exact this ⟨k,h⟩
theorem shr4:∀ c:UInt8,sShr .u8 (c.toNat:Int) 4=((c.toNat / 16:Nat):Int):=by
 have:∀ k:Fin 256,sShr .u8 (k.val:Int) 4=((k.val / 16:Nat):Int):=by decide +kernel
 exact fun c=>this ⟨c.toNat,c.toNat_lt⟩
theorem and15:∀ c:UInt8,bAnd .u8 (c.toNat:Int) 15=((c.toNat % 16:Nat):Int):=by
 have:∀ k:Fin 256,bAnd .u8 (k.val:Int) 15=((k.val % 16:Nat):Int):=by decide +kernel
 exact fun c=>this ⟨c.toNat,c.toNat_lt⟩
/-- over A, of which b is not, the builder b holds bs -/
structure Wr (A B:Heap) (b:Nat) (bs:Str):Prop where
 le:A.le B
 nb:A b=none
 bl:IsB tyB tyE B b bs
theorem Wr.byte {A B:Heap} {b:Nat} {bs:Str} {c:UInt8} {i:Int} {K:Value→Heap→Prop} (h:Wr A B b bs) (hi:i=(c.toNat:Int)) (hl:bs.length+1≤140737488355328) (k:∀ D,Wr A D b (bs++[c])→K .nilIface D):Qq C (some (b,0)) i K B:=by
 subst hi
 exact Qi8 h.bl liB145 hl (k _ ⟨h.le.put _ _ h.nb,h.nb,IsB.put⟩)
theorem Wr.str {A B:Heap} {b:Nat} {bs s:Str} {K:Int→Value→Heap→Prop} (h:Wr A B b bs) (hl:bs.length+s.length≤140737488355328) (k:∀ D,Wr A D b (bs++s)→K (s.length:Int) .nilIface D):Ql C (some (b,0)) s K B:=
 Qkg h.bl liB145 hl (k _ ⟨h.le.put _ _ h.nb,h.nb,IsB.put⟩)
theorem QsE (c:UInt8):1≤(qC c).length∧(qC c).length≤4:=by
 rcases Qtp c with ⟨_,e⟩ | ⟨_,e⟩ | ⟨_,e⟩ | ⟨_,_,e⟩ | e <;> rw [e] <;> simp
theorem Qtq {A B:Heap} {b:Nat} {bs s:Str} {K:Heap→Prop} (h:Wr A B b bs) (hl:bs.length+(quoteS s).length≤140737488355328) (k:∀ D,Wr A D b (bs++quoteS s)→K D):Qij C (some (b,0)) s K B:=by
 apply QnU
 unfold QkH
 have hql:(quoteS s).length=(s.flatMap qC).length+2:=by simp [quoteS]
 have hpre:∀ i,((s.take i).flatMap qC).length≤(s.flatMap qC).length:=fun i=>by
  have:=congrArg List.length (congrArg (List.flatMap qC) (List.take_append_drop i s))
  rw [List.flatMap_append,List.length_append] at this; omega
 have hsl:s.length≤(s.flatMap qC).length:=by
  clear hl k hql hpre
  induction s with
  | nil=>exact Nat.le_refl _
  | cons c s ih=>
   have:=(QsE c).1
   rw [List.flatMap_cons,List.length_append,List.length_cons]; omega
 refine h.byte (c:=34) rfl (by omega) fun B1 h1=>?_
 refine ⟨fun x D=>∃ i:Nat,x=(i:Int)∧i≤s.length∧Wr A D b (bs++[34]++(s.take i).flatMap qC),fun x _=>s.length - x.toNat,⟨0,rfl,Nat.zero_le _,by simpa using h1⟩,?_⟩
 rintro _ D ⟨i,rfl,hi,hw⟩
 refine ift.of (fun hlt=>?_) (fun hlt=>?_)
 ·have hlt : i < s.length := by have := of_decide_eq_true hlt; omega
  have hstep:(s.take (i+1)).flatMap qC=(s.take i).flatMap qC++qC s[i]:=by
   rw [List.take_add_one,List.getElem?_eq_getElem hlt,Option.toList_some,List.flatMap_append,List.flatMap_singleton]
  have hnl:=hpre (i+1)
  rw [hstep,List.length_append] at hnl
  have hcur:(bs++[34]++(s.take i).flatMap qC).length=bs.length+1+((s.take i).flatMap qC).length:=by simp only [List.length_append,List.length_singleton]
  refine ⟨fun _ E=>Wr A E b (bs++[34]++(s.take (i+1)).flatMap qC),?_,?_⟩
  ·refine ⟨s[i], by omega, by rw [Int.toNat_natCast]; exact List.getElem?_eq_getElem hlt, ?_⟩
   rw [hstep,← List.append_assoc]
   generalize s[i]=c at *
   generalize bs++[34]++(s.take i).flatMap qC=cur at *
   have e34:((c.toNat:Int) == 34)=decide (c=34):=by
    rw [Bool.eq_iff_iff,beq_iff_eq,decide_eq_true_iff]
    exact ⟨fun h=>QtI (by show c.toNat=34; omega),fun h=>by rw [h]; rfl⟩
   have e92:((c.toNat:Int) == 92)=decide (c=92):=by
    rw [Bool.eq_iff_iff,beq_iff_eq,decide_eq_true_iff]
    exact ⟨fun h=>QtI (by show c.toNat=92; omega),fun h=>by rw [h]; rfl⟩
   have e10:((c.toNat:Int) == 10)=decide (c=10):=by
    rw [Bool.eq_iff_iff,beq_iff_eq,decide_eq_true_iff]
    exact ⟨fun h=>QtI (by show c.toNat=10; omega),fun h=>by rw [h]; rfl⟩
   have e9:((c.toNat:Int) == 9)=decide (c=9):=by
    rw [Bool.eq_iff_iff,beq_iff_eq,decide_eq_true_iff]
    exact ⟨fun h=>QtI (by show c.toNat=9; omega),fun h=>by rw [h]; rfl⟩
   rw [e34,e92,e10,e9]
   have hq4:=(QsE c).2
   refine ift.of (fun c1=>?_) (fun c1=>?_)
   ·simp only [Bool.or_eq_true,decide_eq_true_eq] at c1
    have e:qC c=[92,c]:=by unfold qC; rw [if_pos c1]
    rw [e] at hnl ⊢
    simp only [List.length_cons,List.length_nil] at hnl
    refine hw.byte (c:=92) rfl (by omega) fun D1 h2=>h2.byte (c:=c) rfl (by simp; omega) fun D2 h3=>?_
    simpa using h3
   simp only [Bool.or_eq_false_iff,decide_eq_false_iff_not] at c1
   have c1':¬ (c=34∨c=92):=fun h=>h.elim c1.1 c1.2
   refine ift.of (fun c2=>?_) (fun c2=>?_)
   ·have c2:=of_decide_eq_true c2
    have e:qC c=[92,110]:=by unfold qC; rw [if_neg c1',if_pos c2]
    rw [e] at hnl ⊢
    simp only [List.length_cons,List.length_nil] at hnl
    exact hw.str (s:=[92,110]) (by simp; omega) fun D1 h2=>h2
   have c2:=of_decide_eq_false c2
   refine ift.of (fun c3=>?_) (fun c3=>?_)
   ·have c3:=of_decide_eq_true c3
    have e:qC c=[92,116]:=by unfold qC; rw [if_neg c1',if_neg c2,if_pos c3]
    rw [e] at hnl ⊢
    simp only [List.length_cons,List.length_nil] at hnl
    exact hw.str (s:=[92,116]) (by simp; omega) fun D1 h2=>h2
   have c3:=of_decide_eq_false c3
   refine ift.of (fun c4=>?_) (fun c4=>?_)
   ·simp only [Bool.and_eq_true,decide_eq_true_eq] at c4
    have e:qC c=[c]:=by unfold qC; rw [if_neg c1',if_neg c2,if_neg c3,if_pos (by omega)]
    rw [e] at hnl ⊢
    simp only [List.length_cons,List.length_nil] at hnl
    exact hw.byte (c:=c) rfl (by omega) fun D1 h2=>h2
   ·simp only [Bool.and_eq_false_iff,decide_eq_false_iff_not] at c4
    have e:qC c=[92,120,hexD (c.toNat / 16),hexD (c.toNat % 16)]:=by unfold qC; rw [if_neg c1',if_neg c2,if_neg c3,if_neg (by omega)]
    rw [e] at hnl ⊢
    simp only [List.length_cons,List.length_nil] at hnl
    have hct:=c.toNat_lt
    refine hw.str (s:=[92,120]) (by simp; omega) fun D1 h2=>?_
    rw [shr4,and15]
    refine ⟨hexD (c.toNat / 16),by omega,by rw [Int.toNat_natCast]; exact hexS (by omega),?_⟩
    refine h2.byte (c:=hexD (c.toNat / 16)) rfl (by simp; omega) fun D2 h3=>?_
    refine ⟨hexD (c.toNat % 16),by omega,by rw [Int.toNat_natCast]; exact hexS (by omega),?_⟩
    refine h3.byte (c:=hexD (c.toNat % 16)) rfl (by simp; omega) fun D3 h4=>?_
    simpa using h4
  ·rintro _ E hE
   rw [Q4 (by omega) (by omega)]
   exact ⟨⟨i+1,by omega,by omega,hE⟩,by first | omega | (dsimp only; omega)⟩
 ·have hie : i = s.length := by have := of_decide_eq_false hlt; omega
  rw [hie,List.take_length] at hw
  refine hw.byte (c:=34) rfl (by simp only [List.length_append,List.length_singleton]; omega) fun E hE=>k E ?_
  simpa [quoteS] using hE
/-- the two closures, each in the other's cell -/
structure Clo (C:Ctx) (A:Heap) (b p q:Nat):Prop where
 list:∃ x,rd A (p,0)=some x∧∀ (t:Sl) (B:Heap) (Φ:Value→Heap→Prop),QgT C t (b,0) (q,0) (fun D=>Φ (.tuple #[]) D) B→callU Tryz.prog C x [slv t] B Φ
 show_:∃ x,rd A (q,0)=some x∧∀ (v:TV) (B:Heap) (Φ:Value→Heap→Prop),QdF C v (b,0) (p,0) (fun D=>Φ (.tuple #[]) D) B→callU Tryz.prog C x [.agg (Qe.c v).toArray] B Φ
variable {A B:Heap} {b p q:Nat}
theorem Clo.le {A1:Heap} (h:Clo C A b p q) (hle:A.le A1):Clo C A1 b p q:=by
 obtain ⟨⟨x,h1,h2⟩,y,h3,h4⟩:=h
 exact ⟨⟨x,Qqh hle h1,h2⟩,y,Qqh hle h3,h4⟩
theorem Wr.box {bs:Str} {b1:Nat} {x:TV} (h:Wr A B b bs) (n1:B b1=none) :
 Wr (A.put b1 (.row (Qe.c x))) (B.put b1 (.row (Qe.c x))) b bs∧A.le (A.put b1 (.row (Qe.c x)))∧(A.put b1 (.row (Qe.c x))) b1=some (true,.row (Qe.c x)):=by
 have hne:b≠b1:=fun e=>by
  obtain ⟨g,hg⟩:=h.bl.some
  rw [e,n1] at hg; cases hg
 refine ⟨⟨fun z e hz=>?_,by rw [Heap.put_ne _ _ _ hne]; exact h.nb,h.bl.le (Heap.le_put n1)⟩,Heap.le_put (h.le.none n1),Heap.put_same ..⟩
 by_cases hzb:z=b1
 ·subst hzb; rw [Heap.put_same] at hz ⊢; exact hz
 ·rw [Heap.put_ne _ _ _ hzb] at hz ⊢; exact h.le _ _ hz
theorem Wr.base {A1 D:Heap} {bs:Str} (h:Wr A1 D b bs) (hle:A.le A1):Wr A D b bs:=⟨hle.trans h.le,hle.none h.nb,h.bl⟩
theorem Qq2 (v:V):showV v=if v.k=1 then (if v.n=1 then trueS else falseS) else if v.k=2 then Lib.itoa v.n else if v.k=3 then v.s++[98] else if v.k=4 then quoteS v.s
 else if v.k=5 then 40::(showR true v.l++[41]) else v.s++(if v.l.length=0 then [] else 40::(showR true v.l++[41])):=by cases v; rfl
theorem Qse {l:List V} (ih:∀ w ∈ l,∀ {A B:Heap} {x:TV} {bs:Str} {K:Heap→Prop},Clo C A b p q→VIs A w x→VB w→Wr A B b bs→bs.length+(showV w).length≤140737488355328→(∀ D,Wr A D b (bs++showV w)→K D)→QdF C x (b,0) (p,0) K B)
 {A B:Heap} {t:Sl} {bs:Str} {K:Heap→Prop} (hC:Clo C A b p q) (hv:VRow A t l) (hl0:l.length≤140737488355328) (hB:VBs l) (h:Wr A B b bs) (hl:bs.length+(showR true l).length+2≤140737488355328)
 (k:∀ D,Wr A D b (bs++(40::(showR true l++[41])))→K D):QgT C t (b,0) (q,0) K B:=by
 apply QmP
 unfold QjR
 refine h.byte (c:=40) rfl (by omega) fun B1 h1=>?_
 rw [hv.len]
 refine ⟨fun x D=>∃ i:Nat,x=(i:Int)∧i≤l.length∧Wr A D b (bs++[40]++showR true (l.take i)),fun x _=>l.length - x.toNat,⟨0,rfl,Nat.zero_le _,by simpa [showR] using h1⟩,?_⟩
 rintro _ D ⟨i,rfl,hi,hw⟩
 refine ift.of (fun hlt=>?_) (fun hlt=>?_)
 ·have hlt : i < l.length := by have := of_decide_eq_true hlt; omega
  have hm:=List.getElem_mem hlt
  have hst:=Qrw hlt
  have hpl:=QsL l (i+1)
  rw [hst] at hpl
  simp only [List.length_append] at hpl
  refine hv.ld hw.le rfl hlt fun x hx=>?_
  intro b14 n14
  refine ⟨_,Heap.put_same ..,by simp [Qe.c],?_⟩
  rw [Heap.put_put]
  have hc:splice (Qe.c Qe.zero) (b14,0).2 (Qe.c x)=Qe.c x:=rfl
  rw [hc]
  obtain ⟨w1,w2,w3⟩:=hw.box (x:=x) n14
  refine ⟨fun _ E=>Wr (A.put b14 (.row (Qe.c x))) E b (bs++[40]++showR true (l.take i)++(if i=0 then [] else [44,32])),?_,?_⟩
  ·refine ift.of (fun h0 => ?_) (fun h0 => ?_)
   ·have h0 : i ≠ 0 := by have := of_decide_eq_true h0; omega
    rw [if_neg h0] at hpl ⊢
    simp only [List.length_cons,List.length_nil] at hpl
    exact w1.str (s:=[44,32]) (by simp only [List.length_append,List.length_cons,List.length_nil]; omega) fun E hE=>hE
   ·have h0 : i = 0 := by have := of_decide_eq_false h0; omega
    rw [if_pos h0,List.append_nil]; exact w1
  ·rintro _ E hE
   obtain ⟨y,y1,y2⟩:=(hC.le w2).show_
   refine ⟨y,Qqh hE.le y1,bxV (hE.le _ _ w3) (y2 _ _ _ (ih _ hm (hC.le w2) (hx.le w2) (hB.mem hm) hE ?_ fun F hF=>⟨rfl,?_⟩))⟩
   ·simp only [List.length_append,List.length_cons,List.length_nil]; omega
   ·rw [Q4 (by omega) (by omega)]
    refine ⟨⟨i+1,by omega,by omega,?_⟩,by first | omega | (dsimp only; omega)⟩
    rw [hst]
    have:=hF.base w2
    simpa only [List.append_assoc] using this
 ·have hie : i = l.length := by have := of_decide_eq_false hlt; omega
  rw [hie,List.take_length] at hw
  refine hw.byte (c:=41) rfl (by simp only [List.length_append,List.length_cons,List.length_nil]; omega) fun E hE=>k E ?_
  simpa only [List.append_assoc,List.cons_append,List.nil_append] using hE
theorem QtC (hF:FmtC C) (v:V):∀ {A B:Heap} {x:TV} {bs:Str} {K:Heap→Prop},Clo C A b p q→VIs A v x→VB v→Wr A B b bs→bs.length+(showV v).length≤140737488355328→(∀ D,Wr A D b (bs++showV v)→K D)→QdF C x (b,0) (p,0) K B:=by
 refine V.rec_ (P:=fun v=>∀ {A B:Heap} {x:TV} {bs:Str} {K:Heap→Prop},Clo C A b p q→VIs A v x→VB v→Wr A B b bs→bs.length+(showV v).length≤140737488355328→(∀ D,Wr A D b (bs++showV v)→K D)→QdF C x (b,0) (p,0) K B) (fun v ih=>?_) v
 intro A B x bs K hC hv hB h hl k
 apply QmQ
 unfold QjS
 intro b1 n1
 obtain ⟨w1,w2,w3⟩:=h.box (x:=x) n1
 have hv1:=QhZ.1 hv
 have hb1:=w1.le _ _ w3
 have k1:∀ D,Wr (A.put b1 (.row (Qe.c x))) D b (bs++showV v)→K D:=fun D hD=>k D (hD.base w2)
 rw [Qq2] at hl k1
 have hC1:=hC.le w2
 have hrow:=hv1.2.2.2.le w2
 generalize A.put b1 (.row (Qe.c x))=A1 at *
 generalize B.put b1 (.row (Qe.c x))=B1 at *
 refine bxK hb1 ?_
 rw [hv1.1]
 refine ift.of (fun h1=>?_) (fun h1=>?_)
 ·have h1 : v.k = 1 := by simpa using h1
  rw [if_pos h1] at hl k1
  refine bxN hb1 (Qos ?_)
  rw [hv1.2.1]
  have e:(if (v.n == 1)=true then trueS else falseS)=(if v.n=1 then trueS else falseS):=by simp
  rw [e]
  exact w1.str hl k1
 have h1:v.k≠1:=by simpa using h1
 rw [if_neg h1] at hl k1
 refine ift.of (fun h2=>?_) (fun h2=>?_)
 ·have h2 : v.k = 2 := by simpa using h2
  rw [if_pos h2] at hl k1
  refine bxN hb1 ?_
  rw [hv1.2.1]
  exact hF.ok hB.n.1 hB.n.2 (w1.str hl k1)
 have h2:v.k≠2:=by simpa using h2
 rw [if_neg h2] at hl k1
 refine ift.of (fun h3=>?_) (fun h3=>?_)
 ·have h3 : v.k = 3 := by simpa using h3
  rw [if_pos h3] at hl k1
  simp only [List.length_append,List.length_cons,List.length_nil] at hl
  refine bxS hb1 ?_
  rw [hv1.2.2.1]
  refine w1.str (by omega) fun D hD=>hD.byte (c:=98) rfl (by rw [List.length_append]; omega) fun E hE=>k1 E ?_
  simpa only [List.append_assoc] using hE
 have h3:v.k≠3:=by simpa using h3
 rw [if_neg h3] at hl k1
 refine ift.of (fun h4=>?_) (fun h4=>?_)
 ·have h4 : v.k = 4 := by simpa using h4
  rw [if_pos h4] at hl k1
  refine bxS hb1 ?_
  rw [hv1.2.2.1]
  exact Qtq w1 hl k1
 have h4:v.k≠4:=by simpa using h4
 rw [if_neg h4] at hl k1
 obtain ⟨y,y1,y2⟩:=hC1.list
 refine ift.of (fun h5=>?_) (fun h5=>?_)
 ·have h5 : v.k = 5 := by simpa using h5
  rw [if_pos h5] at hl k1
  simp only [List.length_append,List.length_cons,List.length_nil] at hl
  exact ⟨y,Qqh w1.le y1,bxL hb1 (y2 _ _ _ (Qse ih hC1 hrow hB.l hB.ls w1 (by omega) fun D hD=>⟨rfl,k1 D hD⟩))⟩
 have h5:v.k≠5:=by simpa using h5
 rw [if_neg h5] at hl k1
 rw [List.length_append] at hl
 refine bxS hb1 ?_
 rw [hv1.2.2.1]
 refine w1.str (by omega) fun D hD=>bxL (hD.le _ _ w3) ?_
 rw [hrow.len]
 refine ift.of (fun h6=>?_) (fun h6=>?_)
 ·have h6 : v.l.length ≠ 0 := by have := of_decide_eq_true h6; omega
  rw [if_neg h6] at hl k1
  simp only [List.length_append,List.length_cons,List.length_nil] at hl
  refine ⟨y,Qqh hD.le y1,bxL (hD.le _ _ w3) (y2 _ _ _ (Qse ih hC1 hrow hB.l hB.ls hD (by rw [List.length_append]; omega) fun E hE=>⟨rfl,k1 E ?_⟩))⟩
  rw [← List.append_assoc]; exact hE
 ·have h6 : v.l.length = 0 := by have := of_decide_eq_false h6; omega
  rw [if_pos h6] at k1
  rw [List.append_nil] at k1
  exact k1 D hD
/-- the text of a value that may be -/
theorem Quc (hF:FmtC C) {v:V} {x:TV} {K:Str→Heap→Prop} (hv:VIs H v x) (hB:VB v) (hl:mayV v=true→(showV v).length≤140737488355328) (k:∀ H2,H.le H2→K (if mayV v then showV v else []) H2):Qjn C x K H:=by
 apply QoB
 unfold Qlz
 intro b1 n1
 have hle1:=Heap.le_put n1 (g:=.row (Qe.c x)) (m:=true)
 have hb1:(H.put b1 (.row (Qe.c x))) b1=some (true,.row (Qe.c x)):=Heap.put_same ..
 have hv1:=hv.le hle1
 generalize H.put b1 (.row (Qe.c x))=H1 at *
 refine bxV hb1 (QkI hv1 hB ?_)
 rw [bne,Qti]
 refine ift.of (fun h=>?_) (fun h=>?_)
 ·have h : mayV v = false := by simpa using h
  have:=k H1 hle1
  rw [h] at this; exact this
 have h:mayV v=true:=by simpa using h
 intro b8 n8 b10 n10 b12 n12
 have l8:=Heap.le_put n8 (g:=.trow tyB 0 [pv none,slv Sl.nil]) (m:=true)
 have ne1:b8≠b10:=fun e=>by rw [e,Heap.put_same] at n10; cases n10
 have ne2:b8≠b12:=fun e=>by rw [← e,Heap.put_ne _ _ _ ne1,Heap.put_same] at n12; cases n12
 have ne3:b10≠b12:=fun e=>by rw [e,Heap.put_same] at n12; cases n12
 refine ⟨[.nilFunc],Heap.put_same ..,Nat.zero_lt_one,?_⟩
 refine ⟨[.nilFunc],?_,Nat.zero_lt_one,?_⟩
 ·show ((((H1.put b8 _).put b10 _).put b12 _).put b12 _) b10=_
  rw [Heap.put_ne _ _ _ ne3,Heap.put_ne _ _ _ ne3,Heap.put_same]
 generalize hf24:Value.func (Fn.func _) (List.toArray []) (List.toArray [pv (some (b8,0)),pv (some (b10,0))])=F24
 generalize hf27:Value.func (Fn.func _) (List.toArray []) (List.toArray [pv (some (b8,0)),pv (some (b12,0))])=F27
 simp only [List.set_cons_zero]
 have n10':H1 b10=none:=l8.none n10
 have n12':H1 b12=none:=(l8.trans (Heap.le_put n10)).none n12
 generalize hD0:((((H1.put b8 (.trow tyB 0 [pv none,slv Sl.nil])).put b10 (.row [.nilFunc])).put b12 (.row [.nilFunc])).put b12 (.row [F24])).put b10 (.row [F27])=D0
 have d8:D0 b8=some (true,.trow tyB 0 [pv none,slv Sl.nil]):=by
  rw [← hD0,Heap.put_ne _ _ _ ne1,Heap.put_ne _ _ _ ne2,Heap.put_ne _ _ _ ne2,Heap.put_ne _ _ _ ne1,Heap.put_same]
 have d10:D0 b10=some (true,.row [F27]):=by rw [← hD0,Heap.put_same]
 have d12:D0 b12=some (true,.row [F24]):=by rw [← hD0,Heap.put_ne _ _ _ (Ne.symm ne3),Heap.put_same]
 have dle:H1.le D0:=fun z e hz=>by
  have z8:z≠b8:=fun e'=>by rw [e',n8] at hz; cases hz
  have z10:z≠b10:=fun e'=>by rw [e',n10'] at hz; cases hz
  have z12:z≠b12:=fun e'=>by rw [e',n12'] at hz; cases hz
  rw [← hD0,Heap.put_ne _ _ _ z10,Heap.put_ne _ _ _ z12,Heap.put_ne _ _ _ z12,Heap.put_ne _ _ _ z10,Heap.put_ne _ _ _ z8]; exact hz
 clear hD0
 let A:Heap:=D0.del b8
 have hA8:A b8=none:=Heap.del_same ..
 have hAle:A.le D0:=Heap.del_le D0 b8
 have hHA:H1.le A:=fun z e hz=>by
  have z8:z≠b8:=fun e'=>by rw [e',n8] at hz; cases hz
  show D0.del b8 z=_
  rw [Heap.del_ne _ z8]; exact dle _ _ hz
 have hw:Wr A D0 b8 []:=⟨hAle,hA8,.inr ⟨rfl,d8⟩⟩
 have a10:A b10=some (true,.row [F27]):=by show D0.del b8 b10=_; rw [Heap.del_ne _ (Ne.symm ne1)]; exact d10
 have a12:A b12=some (true,.row [F24]):=by show D0.del b8 b12=_; rw [Heap.del_ne _ (Ne.symm ne2)]; exact d12
 have hC:Clo C A b8 b12 b10:=by
  refine ⟨⟨F24,by simp [rd,a12,GO.cells?],fun t B Φ hh=>?_⟩,F27,by simp [rd,a10,GO.cells?],fun w B Φ hh=>?_⟩
  ·exact ⟨_,[],_,hf24.symm,Qns,Spec.mono hh fun u B2 ⟨e,h2⟩=>by rw [e]; exact h2⟩
  ·exact ⟨_,[],_,hf27.symm,Qnt,Spec.mono hh fun u B2 ⟨e,h2⟩=>by rw [e]; exact h2⟩
 obtain ⟨y,y1,y2⟩:=hC.show_
 refine ⟨y,Qqh hAle y1,bxV (dle _ _ hb1) (y2 _ _ _ (QtC hF v (bs:=[]) hC (hv1.le hHA) hB hw (by simpa using hl h) fun D hD=>⟨rfl,?_⟩))⟩
 refine Qpg hD.bl liB145 (by rw [List.nil_append]; have:=hl h; omega) ?_
 have:=k (D.put b8 (Bd ([]++showV v))) ((hle1.trans hHA).trans (hD.le.put _ _ hA8))
 rw [h] at this
 exact this
end
theorem Qrs (s:Str):(quoteS s).length≤4*s.length+2:=by
 have:(s.flatMap qC).length≤4*s.length:=by
  induction s with
  | nil=>exact Nat.le_refl _
  | cons c s ih=>
   have:=(QsE c).2
   rw [List.flatMap_cons,List.length_append,List.length_cons]; omega
 simp only [quoteS,List.length_cons,List.length_append,List.length_nil]; omega
theorem QpS:∀ (l:List V) (f:Bool),(∀ v ∈ l,(showV v).length+2≤17000*vsize v)→(showR f l).length≤17000*vsizes l
 | [],f,_=>by simp [showR]
 | v::l,f,h=>by
  have h1:=h v (List.mem_cons_self ..)
  have h2:=QpS l false fun w hw=>h w (List.mem_cons_of_mem _ hw)
  simp only [showR,vsizes,List.length_append]
  have h3:(if f=true then ([]:Str) else [44,32]).length≤2:=by cases f <;> simp
  omega
theorem QsM (v:V):VB v→formV v=true→fitsV v=true→(showV v).length+2≤17000*vsize v:=by
 refine V.rec_ (P:=fun v=>VB v→formV v=true→fitsV v=true→(showV v).length+2≤17000*vsize v) (fun v ih=>?_) v
 intro hB hf hfit
 have hsz:vsize v=vsizes v.l+1:=by cases v; rfl
 obtain ⟨hfs,hc⟩:=QqX hf
 rw [QqI,Bool.and_eq_true] at hfit
 have fm:∀ {l:List V} {w:V},w ∈ l→fitsVs l=true→fitsV w=true:=by
  intro l
  induction l with
  | nil=>intro w hw; cases hw
  | cons x l ihl=>
   intro w hw hl
   simp only [fitsVs,Bool.and_eq_true] at hl
   rcases List.mem_cons.1 hw with rfl | hw
   ·exact hl.1
   ·exact ihl hw hl.2
 have hR:=QpS v.l true fun w hw=>ih w hw (hB.ls.mem hw) (Qri hw hfs) (fm hw hfit.2)
 have hfN:=hfit.1
 rw [Qq2,hsz]
 unfold fitN at hfN
 rcases hc with ⟨h,_⟩ | ⟨h,_⟩ | ⟨h,hn,_⟩ | ⟨h,_⟩ | ⟨h,_⟩ | ⟨h,_,hn⟩
 ·rw [if_pos h]
  have:(if v.n=1 then trueS else falseS).length≤5:=by split <;> decide
  omega
 ·rw [if_neg (by omega), if_pos h]
  have:=Lib.itoa_length_le v.n hB.n.1 hB.n.2
  omega
 ·rw [if_neg (by omega), if_neg (by omega), if_pos h]
  rw [if_pos h] at hfN
  have hd:=of_decide_eq_true hfN
  have:=(Qrq hn).2.2
  rw [List.length_append,List.length_singleton]; omega
 ·rw [if_neg (by omega), if_neg (by omega), if_neg (by omega), if_pos h]
  rw [if_neg (by omega),if_pos h] at hfN
  have hd:=of_decide_eq_true hfN
  have:=Qrs v.s
  omega
 ·rw [if_neg (by omega), if_neg (by omega), if_neg (by omega), if_neg (by omega), if_pos h]
  simp only [List.length_cons,List.length_append,List.length_nil]; omega
 ·rw [if_neg (by omega), if_neg (by omega), if_neg (by omega), if_neg (by omega), if_neg (by omega)]
  have:=(QpC hn).2.2.2.1
  have h2:(if v.l.length=0 then ([]:Str) else 40::(showR true v.l++[41])).length≤(showR true v.l).length+2:=by
   split
   ·exact Nat.zero_le _
   ·simp
  rw [List.length_append]; omega
end
section
open Go
inductive TyV where
 | mk (n:Str) (a:List TyV)
inductive ExV where
 | mk (k:Int) (n:Str) (v:V) (a:List ExV)
structure LiV where
 k:Int
 r:Str
 a:List ExV
structure FdV where
 n:Str
 t:TyV
structure CnV where
 n:Str
 f:List FdV
structure TdV where
 p:Bool
 n:Str
 ps:List Str
 cs:List CnV
structure RdV where
 p:Bool
 i:Bool
 n:Str
 f:List FdV
structure RuV where
 r:Str
 a:List ExV
 g:List Str
 b:List LiV
structure NeV where
 n:Str
 b:List LiV
structure MoV where
 n:Str
 im:List Str
 ty:List TdV
 re:List RdV
 ru:List RuV
 ne:List NeV
def TyV.n:TyV→Str | .mk n _=>n
def TyV.a:TyV→List TyV | .mk _ a=>a
def ExV.k:ExV→Int | .mk k _ _ _=>k
def ExV.n:ExV→Str | .mk _ n _ _=>n
def ExV.v:ExV→V | .mk _ _ v _=>v
def ExV.a:ExV→List ExV | .mk _ _ _ a=>a
theorem TyV.rec_ {P:TyV→Prop} (h:∀ v,(∀ w ∈ v.a,P w)→P v):∀ v,P v
 | .mk n a=>h _ fun w hw=>by
  have:sizeOf w < sizeOf a:=List.sizeOf_lt_of_mem hw
  exact TyV.rec_ h w
termination_by v=>sizeOf v
decreasing_by simp_wf; have:sizeOf w < sizeOf a:=List.sizeOf_lt_of_mem hw; omega
theorem ExV.rec_ {P:ExV→Prop} (h:∀ v,(∀ w ∈ v.a,P w)→P v):∀ v,P v
 | .mk k n u a=>h _ fun w hw=>by
  have:sizeOf w < sizeOf a:=List.sizeOf_lt_of_mem hw
  exact ExV.rec_ h w
termination_by v=>sizeOf v
decreasing_by simp_wf; have:sizeOf w < sizeOf a:=List.sizeOf_lt_of_mem hw; omega
end
section
open Go Go.Proofs
/-- a text of what came in: not too long -/
def Nm (x n:Str):Prop:=x=n∧n.length≤140737488355328
/-- a list in memory -/
def SlIs {α β:Type} (R:α→β→Prop) (c:β→List Value) (A:Heap) (s:Sl) (l:List α):Prop:=
 ∃ xs:List β,rdsl A s (xs.flatMap c)∧s.len=xs.length∧l.length=xs.length∧l.length≤140737488355328∧∀ (i:Nat) (v:α) (x:β),l[i]? = some v→xs[i]? = some x→R v x
mutual
def TyIs (H:Heap):TyV→Qd→Prop
 | .mk n a,x=>Nm x.Name n∧∃ xs:List Qd,rdsl H x.Args (xs.flatMap Qd.c)∧x.Args.len=xs.length∧a.length≤140737488355328∧TysAre H a xs
def TysAre (H:Heap):List TyV→List Qd→Prop
 | [],[]=>True
 | v::l,x::xs=>TyIs H v x∧TysAre H l xs
 | [],_::_=>False
 | _::_,[]=>False
end
mutual
def ExIs (H:Heap):ExV→Qb→Prop
 | .mk k n v a,x=>x.Kind=k∧Nm x.Name n∧VIs H v x.Value_∧VB v∧∃ xs:List Qb,rdsl H x.Args (xs.flatMap Qb.c)∧x.Args.len=xs.length∧a.length≤140737488355328∧ExsAre H a xs
def ExsAre (H:Heap):List ExV→List Qb→Prop
 | [],[]=>True
 | v::l,x::xs=>ExIs H v x∧ExsAre H l xs
 | [],_::_=>False
 | _::_,[]=>False
end
theorem TysAre.iff {H:Heap}:∀ {l:List TyV} {xs:List Qd},TysAre H l xs↔l.length=xs.length∧∀ (i:Nat) (v:TyV) (x:Qd),l[i]? = some v→xs[i]? = some x→TyIs H v x
 | [],[]=>by simp [TysAre]
 | [],_::_=>by simp [TysAre]
 | _::_,[]=>by simp [TysAre]
 | v::l,x::xs=>by
  simp only [TysAre,TysAre.iff (l:=l) (xs:=xs),List.length_cons]
  constructor
  ·rintro ⟨h1,h2,h3⟩
   refine ⟨by omega,fun i v' x' hv hx=>?_⟩
   cases i with
   | zero=>simp at hv hx; subst hv; subst hx; exact h1
   | succ i=>exact h3 i v' x' (by simpa using hv) (by simpa using hx)
  ·rintro ⟨h1,h2⟩
   exact ⟨h2 0 v x rfl rfl,by omega,fun i v' x' hv hx=>h2 (i+1) v' x' (by simpa using hv) (by simpa using hx)⟩
theorem ExsAre.iff {H:Heap}:∀ {l:List ExV} {xs:List Qb},ExsAre H l xs↔l.length=xs.length∧∀ (i:Nat) (v:ExV) (x:Qb),l[i]? = some v→xs[i]? = some x→ExIs H v x
 | [],[]=>by simp [ExsAre]
 | [],_::_=>by simp [ExsAre]
 | _::_,[]=>by simp [ExsAre]
 | v::l,x::xs=>by
  simp only [ExsAre,ExsAre.iff (l:=l) (xs:=xs),List.length_cons]
  constructor
  ·rintro ⟨h1,h2,h3⟩
   refine ⟨by omega,fun i v' x' hv hx=>?_⟩
   cases i with
   | zero=>simp at hv hx; subst hv; subst hx; exact h1
   | succ i=>exact h3 i v' x' (by simpa using hv) (by simpa using hx)
  ·rintro ⟨h1,h2⟩
   exact ⟨h2 0 v x rfl rfl,by omega,fun i v' x' hv hx=>h2 (i+1) v' x' (by simpa using hv) (by simpa using hx)⟩
abbrev TyL (A:Heap):=SlIs (TyIs A) Qd.c A
abbrev ExL (A:Heap):=SlIs (ExIs A) Qb.c A
theorem Qej {H:Heap} {v:TyV} {x:Qd}:TyIs H v x↔Nm x.Name v.n∧TyL H x.Args v.a:=by
 obtain ⟨n,a⟩:=v
 simp only [TyIs,TyV.n,TyV.a,TyL,SlIs,TysAre.iff]
 constructor
 ·rintro ⟨h1,xs,h2,h3,h4,h5,h6⟩; exact ⟨h1,xs,h2,h3,h5,h4,h6⟩
 ·rintro ⟨h1,xs,h2,h3,h5,h4,h6⟩; exact ⟨h1,xs,h2,h3,h4,h5,h6⟩
theorem Qei {H:Heap} {v:ExV} {x:Qb}:ExIs H v x↔x.Kind=v.k∧Nm x.Name v.n∧VIs H v.v x.Value_∧VB v.v∧ExL H x.Args v.a:=by
 obtain ⟨k,n,u,a⟩:=v
 simp only [ExIs,ExV.k,ExV.n,ExV.v,ExV.a,ExL,SlIs,ExsAre.iff]
 constructor
 ·rintro ⟨h1,h2,h3,h4,xs,h5,h6,h7,h8,h9⟩; exact ⟨h1,h2,h3,h4,xs,h5,h6,h8,h7,h9⟩
 ·rintro ⟨h1,h2,h3,h4,xs,h5,h6,h8,h7,h9⟩; exact ⟨h1,h2,h3,h4,xs,h5,h6,h7,h8,h9⟩
def StL (A:Heap):Sl→List Str→Prop:=SlIs (fun (v:Str) (x:Str)=>Nm x v) (fun x=>[sv x]) A
def FdIs (A:Heap) (v:FdV) (x:Qf):Prop:=Nm x.Name v.n∧TyIs A v.t x.Type_
abbrev FdL (A:Heap):=SlIs (FdIs A) Qf.c A
def CnIs (A:Heap) (v:CnV) (x:Qg):Prop:=Nm x.Name v.n∧FdL A x.Fields v.f
abbrev CnL (A:Heap):=SlIs (CnIs A) Qg.c A
def TdIs (A:Heap) (v:TdV) (x:Qc):Prop:=x.Pub=v.p∧Nm x.Name v.n∧StL A x.Params v.ps∧CnL A x.Cons v.cs
abbrev TdL (A:Heap):=SlIs (TdIs A) Qc.c A
def RdIs (A:Heap) (v:RdV) (x:Qh):Prop:=x.Pub=v.p∧x.Input=v.i∧Nm x.Name v.n∧FdL A x.Fields v.f
abbrev RdL (A:Heap):=SlIs (RdIs A) Qh.c A
def LiIs (A:Heap) (v:LiV) (x:Qk):Prop:=x.Kind=v.k∧Nm x.Rel v.r∧ExL A x.Args v.a
abbrev LiL (A:Heap):=SlIs (LiIs A) Qk.c A
def RuIs (A:Heap) (v:RuV) (x:Qj):Prop:=Nm x.Rel v.r∧ExL A x.Args v.a∧StL A x.Aggs v.g∧LiL A x.Body v.b
abbrev RuL (A:Heap):=SlIs (RuIs A) Qj.c A
def NeIs (A:Heap) (v:NeV) (x:Qm):Prop:=Nm x.Name v.n∧LiL A x.Body v.b
abbrev NeL (A:Heap):=SlIs (NeIs A) Qm.c A
def ImIs (v:Str) (x:Qp):Prop:=Nm x.Name v
abbrev ImL (A:Heap):=SlIs ImIs Qp.c A
def MoIs (A:Heap) (v:MoV) (x:Qa):Prop:=Nm x.Name v.n∧ImL A x.Imports v.im∧TdL A x.Types v.ty∧RdL A x.Rels v.re∧RuL A x.Rules v.ru∧NeL A x.Nevers v.ne
section
variable {α β:Type} {R:α→β→Prop} {c:β→List Value} {A H:Heap} {s:Sl} {l:List α}
theorem SlIs.len (h:SlIs R c A s l):s.len=l.length:=by obtain ⟨xs,h1,h2,h3,_⟩:=h; omega
theorem SlIs.bd (h:SlIs R c A s l):l.length≤140737488355328:=by obtain ⟨xs,h1,h2,h3,h4,_⟩:=h; exact h4
theorem SlIs.at_ (h:SlIs R c A s l) (hle:A.le H) {z:Nat} (hz:∀ x,(c x).length=z) (hz0:0 < z) {i:Nat} {x:Int} {K:Nat×Nat→Prop} (hx:x=i) (hi:i < l.length) (k:∀ p y,R l[i] y→(∀ j v,(c y)[j]? = some v→rd H (p.1,p.2+x.toNat*z+j)=some v)→K p):ixa s x K:=by
 obtain ⟨xs,h1,h2,h3,_,h4⟩:=h
 have hi2:i < xs.length:=by omega
 have hg:=List.getElem?_eq_getElem hi2
 subst hx
 refine QtQ (Qf6 hle h1) (by omega) (by omega) (fun e=>?_) fun p _ hp=>k p xs[i] (h4 i _ _ (List.getElem?_eq_getElem hi) hg) fun j v hj=>?_
 ·have := Qlc c z hz xs i _ hg 0 ((c xs[i])[0]'(by rw [hz]; exact hz0)) (by rw [List.getElem?_eq_getElem])
  rw [e] at this; simp at this
 ·have:=QlX hp _ _ (Qlc c z hz xs i _ hg j v hj)
  have e0:(i:Int).toNat=i:=by omega
  rw [e0,Nat.add_assoc]; exact this
theorem SlIs.ld (h:SlIs R c A s l) (hle:A.le H) {z:Nat} (hz:∀ x,(c x).length=z) (hz0:0 < z) {i:Nat} {x:Int} {K:β→Prop} (hx:x=i) (hi:i < l.length) (k:∀ y,R l[i] y→K y):ixa s x fun p=>ldT H c (p.1,p.2+x.toNat*z) K:=
 h.at_ hle hz hz0 hx hi fun p y hy hr=>⟨y,QjC fun j v hj=>hr j v hj,k y hy⟩
/-- all so far alike -/
theorem Qnz {l m:List α} {i:Nat} (h1:i < l.length) (h2:i < m.length) (h:l.take i=m.take i) (he:l[i]=m[i]):l.take (i+1)=m.take (i+1):=by
 rw [List.take_add_one,List.take_add_one,h,List.getElem?_eq_getElem h1,List.getElem?_eq_getElem h2,he]
theorem Qpy {l m:List α} {i:Nat} (h1:i < l.length) (h2:i < m.length) (he:l[i]≠m[i]):l≠m:=fun e=>by subst e; exact he rfl
theorem QlD {l m:List α} {i:Nat} (h1:i=l.length) (h2:l.length=m.length) (h:l.take i=m.take i):l=m:=by
 rw [h1,List.take_length,h2,List.take_length] at h; exact h
end
section
variable {α β:Type} {R R2:α→β→Prop} {c:β→List Value} {A B:Heap} {s:Sl} {l:List α}
theorem SlIs.le (hle:A.le B) (h:SlIs R c A s l) (hR:∀ v ∈ l,∀ x,R v x→R2 v x):SlIs R2 c B s l:=by
 obtain ⟨xs,h1,h2,h3,h4,h5⟩:=h
 exact ⟨xs,Qf6 hle h1,h2,h3,h4,fun i v x hv hx=>hR v (List.mem_of_getElem? hv) x (h5 i v x hv hx)⟩
end
theorem TyIs.le {A B:Heap} (hle:A.le B):∀ v:TyV,∀ x,TyIs A v x→TyIs B v x:=by
 refine TyV.rec_ fun v ih x h=>?_
 rw [Qej] at h ⊢
 exact ⟨h.1,h.2.le hle ih⟩
section
variable {A B:Heap} (hle:A.le B)
include hle
theorem StL.le {s:Sl} {l:List Str} (h:StL A s l):StL B s l:=SlIs.le hle h fun _ _ _ h=>h
theorem FdIs.le {v:FdV} {x} (h:FdIs A v x):FdIs B v x:=⟨h.1,TyIs.le hle _ _ h.2⟩
theorem CnIs.le {v:CnV} {x} (h:CnIs A v x):CnIs B v x:=⟨h.1,h.2.le hle fun _ _ _ h=>FdIs.le hle h⟩
end
end
section
open Go Go.Proofs
open Classical in
noncomputable def sm {α:Type} (v w:α):Bool:=decide (v=w)
theorem sm_t {α:Type} {v w:α}:sm v w=true↔v=w:=by unfold sm; simp
theorem Qmh {α:Type} {v w:α} (h:v=w):sm v w=true:=sm_t.2 h
theorem Qmv {α:Type} {v w:α} (h:¬ v=w):sm v w=false:=by
 cases hs:sm v w with
 | false=>rfl
 | true=>exact absurd (sm_t.1 hs) h
section
variable {C:Ctx} {H:Heap}
theorem box2 {cx cy:List Value} {K:Nat→Nat→Heap→Prop} (k:∀ b1 b3 H4,H.le H4→H4 b1=some (true,.row cx)→H4 b3=some (true,.row cy)→K b1 b3 H4):nw cx (fun b1 H2=>nw cy (fun b3 H4=>K b1 b3 H4) H2) H:=by
 intro b1 n1 b3 n3
 have ne:b1≠b3:=fun e=>by rw [e,Heap.put_same] at n3; cases n3
 exact k b1 b3 _ ((Heap.le_put n1).trans (Heap.le_put n3)) (by rw [Heap.put_ne _ _ _ ne,Heap.put_same]) (Heap.put_same ..)
theorem nwT {b:Nat} {cx c0:List Value} {K:Heap→Prop} (hl:cx.length=c0.length) (k:K (H.put b (.row cx))):stT (b,0) cx K (H.put b (.row c0)):=by
 refine ⟨_,Heap.put_same ..,by rw [hl]; simp,?_⟩
 rw [Heap.put_put]
 have e:splice c0 (b,0).2 cx=cx:=by
  unfold splice
  rw [List.take_zero,List.nil_append,List.drop_of_length_le (by rw [hl]; simp),List.append_nil]
 rw [e]; exact k
theorem bxT {β:Type} {c:β→List Value} {b:Nat} {m:Bool} {x:β} {K:β→Prop} (h:H b=some (m,.row (c x))) (k:K x):ldT H c (b,0) K:=⟨x,Qg6 h fun j v hj=>by rw [Nat.zero_add]; exact hj,k⟩
theorem fS {b j:Nat} {m:Bool} {cs:List Value} {t:Str} {K:Str→Prop} (h:H b=some (m,.row cs)) (hj:cs[j]? = some (sv t)) (k:K t):ldS H ((b,0).1,(b,0).2+j) K:=⟨t,by rw [QaC h,Nat.zero_add]; exact hj,k⟩
theorem fI {b j:Nat} {m:Bool} {cs:List Value} {q:IntKind} {t:Int} {K:Int→Prop} (h:H b=some (m,.row cs)) (hj:cs[j]? = some (.int q t)) (k:K t):ldI H q ((b,0).1,(b,0).2+j) K:=⟨t,by rw [QaC h,Nat.zero_add]; exact hj,k⟩
theorem fB {b j:Nat} {m:Bool} {cs:List Value} {t:Bool} {K:Bool→Prop} (h:H b=some (m,.row cs)) (hj:cs[j]? = some (.bool t)) (k:K t):ldB H ((b,0).1,(b,0).2+j) K:=⟨t,by rw [QaC h,Nat.zero_add]; exact hj,k⟩
theorem fL {b j:Nat} {m:Bool} {cs:List Value} {t:Sl} {K:Sl→Prop} (h:H b=some (m,.row cs)) (hj:cs[j]? = some (slv t)) (k:K t):ldL H ((b,0).1,(b,0).2+j) K:=⟨t,by rw [QaC h,Nat.zero_add]; exact hj,k⟩
theorem fT {β:Type} {c:β→List Value} {b j:Nat} {m:Bool} {cs:List Value} {x:β} {K:β→Prop} (h:H b=some (m,.row cs)) (hj:∀ i v,(c x)[i]? = some v→cs[j+i]? = some v) (k:K x):ldT H c ((b,0).1,(b,0).2+j) K:=⟨x,Qg6 h fun i v hi=>by rw [Nat.zero_add]; exact hj i v hi,k⟩
theorem cu {P:Program} {f:FuncId} {vs:List Value} {Φ:Value→Heap→Prop} (hok:CallOk P f) (h:Spec P C f vs H Φ):callU P C (.func (.func f) (List.toArray []) (List.toArray [])) vs H Φ:=⟨f,[],[],rfl,hok,by simpa using h⟩
end
section
variable {α β:Type} {R:α→β→Prop} {c:β→List Value} {A H:Heap} {s:Sl} {l:List α} {z:Nat} {i j:Nat} {x:Int}
theorem SlIs.fS {K:Str→Prop} (h:SlIs R c A s l) (hle:A.le H) (hz:∀ x,(c x).length=z) (hz0:0 < z) (hx:x=i) (hi:i < l.length) {f:β→Str} (hj:∀ y,(c y)[j]? = some (sv (f y))) (k:∀ y,R l[i] y→K (f y)):ixa s x fun p=>ldS H ((p.1,p.2+x.toNat*z).1,(p.1,p.2+x.toNat*z).2+j) K:=
 h.at_ hle hz hz0 hx hi fun p y hy hr=>⟨f y,hr j _ (hj y),k y hy⟩
theorem SlIs.fI {q:IntKind} {K:Int→Prop} (h:SlIs R c A s l) (hle:A.le H) (hz:∀ x,(c x).length=z) (hz0:0 < z) (hx:x=i) (hi:i < l.length) {f:β→Int} (hj:∀ y,(c y)[j]? = some (.int q (f y))) (k:∀ y,R l[i] y→K (f y)):ixa s x fun p=>ldI H q ((p.1,p.2+x.toNat*z).1,(p.1,p.2+x.toNat*z).2+j) K:=
 h.at_ hle hz hz0 hx hi fun p y hy hr=>⟨f y,hr j _ (hj y),k y hy⟩
theorem SlIs.fL {K:Sl→Prop} (h:SlIs R c A s l) (hle:A.le H) (hz:∀ x,(c x).length=z) (hz0:0 < z) (hx:x=i) (hi:i < l.length) {f:β→Sl} (hj:∀ y,(c y)[j]? = some (slv (f y))) (k:∀ y,R l[i] y→K (f y)):ixa s x fun p=>ldL H ((p.1,p.2+x.toNat*z).1,(p.1,p.2+x.toNat*z).2+j) K:=
 h.at_ hle hz hz0 hx hi fun p y hy hr=>⟨f y,hr j _ (hj y),k y hy⟩
theorem SlIs.fT {γ:Type} {d:γ→List Value} {K:γ→Prop} (h:SlIs R c A s l) (hle:A.le H) (hz:∀ x,(c x).length=z) (hz0:0 < z) (hx:x=i) (hi:i < l.length) {f:β→γ} (hj:∀ y n v,(d (f y))[n]? = some v→(c y)[j+n]? = some v) (k:∀ y,R l[i] y→K (f y)):ixa s x fun p=>ldT H d ((p.1,p.2+x.toNat*z).1,(p.1,p.2+x.toNat*z).2+j) K:=
 h.at_ hle hz hz0 hx hi fun p y hy hr=>⟨f y,QjC fun n v hn=>by
  have:=hr (j+n) v (hj y n v hn)
  rw [← Nat.add_assoc] at this; exact this,k y hy⟩
end
section
variable {C:Ctx} {H:Heap}
variable {α:Type} {A:Heap} {s t:Sl} {l m:List α} {e:Value} {K:Bool→Heap→Prop}
theorem Qof (x:Qp):(Qp.c x).length=3:=rfl
theorem QkR (x:Qc):(Qc.c x).length=6:=rfl
theorem QkQ (x:Qg):(Qg.c x).length=2:=rfl
theorem Qc6 (x:Qf):(Qf.c x).length=3:=rfl
theorem QlQ (x:Qh):(Qh.c x).length=6:=rfl
theorem QoW (x:Qj):(Qj.c x).length=6:=rfl
theorem Qdo (x:Qb):(Qb.c x).length=9:=rfl
theorem Qcg (x:Qk):(Qk.c x).length=5:=rfl
theorem Qnb (x:Qm):(Qm.c x).length=4:=rfl
theorem Qle (x:Qd):(Qd.c x).length=2:=rfl
end
end
section
open Go
def resW:List Str:=[[109,111,100,117,108,101],[105,109,112,111,114,116],[112,117,98],[116,121,112,101],[105,110,112,117,116],[114,101,108],[110,101,118,101,114],[110,111,116],[97,110,100],[111,114],[105,102],[116,104,101,110],[101,108,115,101],[116,114,117,101],[102,97,108,115,101],[99,111,117,110,116],[115,117,109],[109,105,110],[109,97,120],[110,101,103],[108,101,110],[98,105,103],[105,110,116],[98,111,111,108],[116,101,120,116],[116,117,112,108,101]]
def namS (s:Str):Bool:=nameS s && !resW.contains s
def longS (s:Str):Bool:=match cutD s with
 | some (a,b)=>namS a && namS b
 | none=>namS s
def upC (c:UInt8):Bool:=decide (65≤c.toNat) && decide (c.toNat≤90)
def varS (s:Str):Bool:=!s.isEmpty && decide (s.length≤32) && upC (s.headD 0) && s.all nameC
def parS (s:Str):Bool:=match s with
 | c::t=>decide (c=39) && namS t
 | []=>false
def tupS:Str:=[116,117,112,108,101]
def boolS:Str:=[98,111,111,108]
def intS:Str:=[105,110,116]
def bigS:Str:=[98,105,103]
def textS:Str:=[116,101,120,116]
def negS:Str:=[110,101,103]
def lenS:Str:=[108,101,110]
def notS:Str:=[110,111,116]
def funB (s:Str):Bool:=decide (s=negS∨s=lenS∨s=bigS∨s=intS)
def opsW:List Str:=[[43],[45],[42],[47],[37],[43,43],[61,61],[33,61],[60],[60,61],[62],[62,61],[97,110,100],[111,114]]
def arS (s:Str):Nat:=if opsW.contains s then 2 else if s=notS∨funB s=true then 1 else 0
mutual
def tyD:TyV→Nat
 | .mk _ a=>tysD a+1
def tysD:List TyV→Nat
 | []=>0
 | v::l=>max (tyD v) (tysD l)
end
mutual
def exD:ExV→Nat
 | .mk _ _ _ a=>exsD a+1
def exsD:List ExV→Nat
 | []=>0
 | v::l=>max (exD v) (exsD l)
end
/-- the greatest of a list -/
def mxL {α:Type} (f:α→Nat):List α→Nat
 | []=>0
 | v::l=>max (f v) (mxL f l)
def fdsD (l:List FdV):Nat:=mxL (fun f=>tyD f.t) l
def liD (x:LiV):Nat:=exsD x.a
def lisD (l:List LiV):Nat:=mxL liD l
def tdD (t:TdV):Nat:=mxL (fun c:CnV=>fdsD c.f) t.cs
def ruD (r:RuV):Nat:=max (exsD r.a) (lisD r.b)
def moD (m:MoV):Nat:=max (max (mxL tdD m.ty) (mxL (fun r:RdV=>fdsD r.f) m.re)) (max (mxL ruD m.ru) (mxL (fun n:NeV=>lisD n.b) m.ne))
def tyN (n:Str) (m:Nat):Bool:=
 if n=boolS∨n=intS∨n=bigS∨n=textS then decide (m=0)
 else if n=tupS then decide (m≠1) && decide (m≤16)
 else (parS n && decide (m=0)) || (longS n && decide (m≤8))
mutual
def tyOk:TyV→Bool
 | .mk n a=>tyN n a.length && tysOk a
def tysOk:List TyV→Bool
 | []=>true
 | v::l=>tyOk v && tysOk l
end
def exN (p:Bool) (k:Int) (n:Str) (m:Nat):Bool:=
 if k=2 then varS n && decide (m=0)
 else if k=3 then p && n.isEmpty && decide (m=0)
 else if k=4 then n.isEmpty && decide (m≠1) && decide (m≤16)
 else if k=5 then longS n && decide (m≤8)
 else if k=6 then !p && decide (0 < arS n) && decide (m=arS n)
 else if k=7 then !p && namS n && decide (m=1)
 else if k=8 then !p && n.isEmpty && decide (m=3)
 else false
def noV (v:V):Bool:=decide (v.k=0) && decide (v.n=0) && v.s.isEmpty && decide (v.l.length=0)
def litV (v:V):Bool:=decide (1≤v.k) && decide (v.k≤4) && mayV v
mutual
def exOk:Bool→ExV→Bool
 | p,.mk k n v a=>if k=1 then litV v && decide (a.length=0) && n.isEmpty else exN p k n a.length && noV v && exsOk p a
def exsOk:Bool→List ExV→Bool
 | _,[]=>true
 | p,v::l=>exOk p v && exsOk p l
end
def liOk (x:LiV):Bool:=
 if x.k=1∨x.k=2 then longS x.r && decide (x.a.length≤8) && exsOk true x.a
 else if x.k=3 then x.r.isEmpty && decide (x.a.length=1) && exsOk false x.a
 else if x.k=4 then varS x.r && decide (x.a.length=1) && exsOk false x.a
 else false
def fdOk (nm:Bool) (f:FdV):Bool:=(namS f.n || (!nm && f.n.isEmpty)) && tyOk f.t
def fdsOk (nm:Bool) (l:List FdV):Bool:=decide (l.length≤8) && l.all (fdOk nm)
def cnOk (c:CnV):Bool:=namS c.n && fdsOk false c.f
def tdOk (t:TdV):Bool:=namS t.n && decide (t.ps.length≤8) && t.ps.all parS && decide (1≤t.cs.length) && decide (t.cs.length≤16) && t.cs.all cnOk
def rdOk (r:RdV):Bool:=namS r.n && fdsOk true r.f
def countS:Str:=[99,111,117,110,116]
def sumS:Str:=[115,117,109]
def minS:Str:=[109,105,110]
def maxS:Str:=[109,97,120]
def agOk (s:Str):Bool:=decide (s=[]∨s=countS∨s=sumS∨s=minS∨s=maxS)
def ruOk (r:RuV):Bool:=longS r.r && decide (r.a.length≤8) && decide (r.g.length=r.a.length) && exsOk false r.a && r.b.all liOk && r.g.all agOk
def neOk (n:NeV):Bool:=namS n.n && decide (0 < n.b.length) && n.b.all liOk
def moOk (m:MoV):Bool:=namS m.n && m.im.all namS && m.ty.all tdOk && m.re.all rdOk && m.ru.all ruOk && m.ne.all neOk
def moFew (m:MoV):Bool:=decide (m.im.length≤8) && decide (m.ty.length≤64) && decide (m.re.length≤64) && decide (m.ru.length≤256) && decide (m.ne.length≤256) && m.ru.all (fun r=>decide (r.b.length≤12)) && m.ne.all (fun n=>decide (n.b.length≤12))
def moC (m:MoV):Int:=if moD m > 64 then 65 else if moOk m=false then 4 else if moFew m=false then 3 else 0
/-- a comma and a blank between each two -/
def cm:Nat→Str
 | 0=>[]
 | _+1=>[44,32]
def noSep:Nat→Str:=fun _=>[]
def opSep (n:Str):Nat→Str
 | 0=>[]
 | _+1=>32::(n++[32])
def ifSep:Nat→Str
 | 0=>[40,105,102,32]
 | 1=>[32,116,104,101,110,32]
 | _=>[32,101,108,115,101,32]
mutual
def tyT:TyV→Str
 | .mk n a=>if n=tupS then 40::(tysT 0 a++[41]) else n++(if a.length=0 then [] else 40::(tysT 0 a++[41]))
def tysT:Nat→List TyV→Str
 | _,[]=>[]
 | i,v::l=>cm i++(tyT v++tysT (i+1) l)
end
def brkE:List ExV→Bool
 | []=>false
 | x::_=>decide (x.k=1∨x.k=5∨(x.k=6∧funB x.n=true))
mutual
def exT:ExV→Str
 | .mk k n v a=>
  if k=1 then showV v else if k=2 then n else if k=3 then [95] else if k=4 then 40::(exsT cm 0 a++[41])
  else if k=5 then n++(if a.length=0 then [] else 40::(exsT cm 0 a++[41]))
  else if k=6 then (if funB n=true then n++40::(exsT cm 0 a++[41]) else if a.length=1 then 40::(n++32::(exsT noSep 0 a++[41])) else 40::(exsT (opSep n) 0 a++[41]))
  else if k=7 then (if brkE a=true then 40::(exsT cm 0 a++[41]) else exsT cm 0 a)++46::n
  else exsT ifSep 0 a++[41]
def exsT:(Nat→Str)→Nat→List ExV→Str
 | _,_,[]=>[]
 | sep,i,v::l=>sep i++(exT v++exsT sep (i+1) l)
end
/-- a list with something between each two -/
def jo {α:Type} (sep:Str) (f:α→Str):Nat→List α→Str
 | _,[]=>[]
 | i,v::l=>(if i=0 then [] else sep)++(f v++jo sep f (i+1) l)
def isMk:List ExV→Bool
 | []=>false
 | x::_=>decide (x.k=5)
def liT (x:LiV):Str:=
 if x.k=1 then x.r++40::(exsT cm 0 x.a++[41])
 else if x.k=2 then [110,111,116,32]++(x.r++40::(exsT cm 0 x.a++[41]))
 else if x.k=4 then x.r++([32,61,32]++exsT cm 0 x.a)
 else if isMk x.a=true then 40::(exsT cm 0 x.a++[41]) else exsT cm 0 x.a
def boT (l:List LiV):Str:=jo [44,32] liT 0 l
def fdT (f:FdV):Str:=(if f.n=[] then [] else f.n++[58,32])++tyT f.t
def fdsT (l:List FdV):Str:=jo [44,32] fdT 0 l
def pubT (b:Bool):Str:=if b then [112,117,98,32] else []
def cnT (c:CnV):Str:=c.n++(if c.f.length=0 then [] else 40::(fdsT c.f++[41]))
def imT (n:Str):Str:=[105,109,112,111,114,116,32]++(n++[10])
def tdT (t:TdV):Str:=pubT t.p++([116,121,112,101,32]++(t.n++((if t.ps.length=0 then [] else 40::(jo [44,32] id 0 t.ps++[41]))++([32,61,32]++(jo [32,124,32] cnT 0 t.cs++[10])))))
def rdT (r:RdV):Str:=pubT r.p++((if r.i then [105,110,112,117,116,32] else [114,101,108,32])++(r.n++40::(fdsT r.f++[41,10])))
/-- an argument of a head -/
def agT (g:Str) (x:ExV):Str:=if g=[] then exT x else g++40::(exT x++[41])
def agsT:Nat→List Str→List ExV→Str
 | i,g::gs,x::xs=>cm i++(agT g x++agsT (i+1) gs xs)
 | _,_,_=>[]
def ruT (r:RuV):Str:=r.r++40::(agsT 0 r.g r.a++41::((if r.b.length=0 then [] else [32,58,45,32]++boT r.b)++[46,10]))
def neT (n:NeV):Str:=[110,101,118,101,114,32]++(n.n++([32,58,45,32]++(boT n.b++[46,10])))
def hdT (n:Str):Str:=[109,111,100,117,108,101,32]++(n++[10])
/-- a module's lines -/
def moL (m:MoV):List Str:=hdT m.n::(m.im.map imT++(m.ty.map tdT++(m.re.map rdT++(m.ru.map ruT++m.ne.map neT))))
def moT (m:MoV):Str:=(moL m).flatten
end
end Sx
end
