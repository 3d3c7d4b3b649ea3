/-
  Texts of this family, one behind the other: Sh4.
-/
import Derived.Test.YtnomkabppjlbfaaGreatDoorAU3
noncomputable section
set_option linter.unusedVariables false
set_option linter.unusedSimpArgs false
set_option maxRecDepth 10000
namespace Sx
section
set_option maxRecDepth 100000
open Go Go.Proofs
def Qev (C:Ctx) (p_l:Sl) (p_depth:Value) (K:Int→Heap→Prop) (H:Heap):Prop:=
 lp (α:=Int×Int) (0,0) H (fun x1 J2 H3=>
 ift (decide ((x1.2:Int) < (Sl.len p_l:Int)))
 (ixa p_l x1.2 fun p5=>
 ldT H3 Qi.c (p5.1,p5.2+(x1.2:Int).toNat*6) fun x10=>
 nw (Qi.c Qi.zero) (fun b12 H13=>
 stT (b12,0) (Qi.c x10) (fun H14=>
 ldT H14 Qi.c (b12,0) fun x15=>
 callU Tryz.prog C p_depth [.agg (Qi.c x15).toArray] H14 (fun v H18=>∃ (r17:Int),v=.int .i64 r17∧
 J2 ((if r17 > x1.1 then r17 else x1.1:Int),(w .i64 (x1.2+1))) H18)) H13) H3)
 (K x1.1 H3))
theorem Qg5 (C p_l p_depth K H) (h:Qev C p_l p_depth K H):Q1 C p_l p_depth K H:=by
 refine Ye Tryz.func119 rfl Tryz.ntmps119 [(0,slv p_l),(1,p_depth)] (Zo (Za (GL.nil (Zo (Za (GL.nil (GC.seq (Zo (Zm (Zq (Zm (GL.nil (GC.block (Yp h (fun x1=>[(5,.int .i64 x1.1),(10,.int .i64 x1.2),(1,p_depth),(8,slv p_l),(9,.int .i64 (Sl.len p_l:Int))]) ?_))))))))))))))
 intro x1 H3 J2 h
 refine Zo (Zi (.bool (decide ((x1.2:Int) < (Sl.len p_l:Int)))) (GL.nil (GC.seq (Yd h (fun u4 h=>?_) fun u4 h=>?_))))
 refine GC.skip (GC.seq (GC.block (Zo (Yx h fun p5 h=>?_))))
 obtain ⟨x10,v11,h⟩:=h
 refine Zv (OV.loadT rfl rfl rfl v11) (GL.alloc (cs:=Qi.c Qi.zero) h trivial rfl rfl rfl ?_)
 intro b12 H13 h
 refine GL.storeT (p:=(b12,0)) (vs:=Qi.c x10) h trivial rfl rfl rfl rfl ?_
 intro H14 h
 refine GL.nil (GC.region (Zm (Zm ?_)))
 obtain ⟨x15,v16,h⟩:=h
 refine Zv (OV.loadT rfl rfl rfl v16) (GL.callU (xv:=p_depth) (vs:=[.agg (Qi.c x15).toArray]) h trivial rfl rfl rfl ?_)
 rintro _ H18 ⟨r17,rfl,h⟩
 refine Zv (OV.maxI rfl rfl) (Za (GL.nil_to (fun _ _ h=>h) (GC.region (Zi (.int .i64 (w .i64 (x1.2+1))) (Zm ?_)))))
 exact Yj I3 ((if r17 > x1.1 then r17 else x1.1:Int),(w .i64 (x1.2+1))) h
 refine GC.exit_to (fun _ _ h=>h) (Zo (Zm (Za (GL.nil ?_))))
 exact Y1 I3 ⟨x1.1,rfl,h⟩
def Qlw (C:Ctx) (p_x:Qi) (K:Int→Heap→Prop) (H:Heap):Prop:=
 nw (Qi.c p_x) (fun b1 H2=>
 ldL H2 ((b1,0).1,(b1,0).2+5) fun x3=>
 QE C x3 (.func (.func 118) (List.toArray []) (List.toArray []):Value) (fun r5 H6=>
 K r5 H6) H2) H
theorem Qpg (C p_x K H) (h:Qlw C p_x K H):Qem C p_x K H:=by
 refine Ye Tryz.func120 rfl Tryz.ntmps120 [(0,.agg (Qi.c p_x).toArray)] (Zo (GL.box (v:=.agg (Qi.c p_x).toArray) (cs:=Qi.c p_x) h trivial rfl rfl rfl ?_))
 intro b1 H2 h
 refine Za (GL.nil (Zo (Zf (Yl h fun x3 h=>?_))))
 refine Zc h QdO ?_
 rintro _ H6 ⟨r5,rfl,h⟩
 refine Za (GL.nil ?_)
 exact Y1 I3 ⟨r5,rfl,h⟩
def Qe8 (C:Ctx) (p_l:Sl) (p_depth:Value) (K:Int→Heap→Prop) (H:Heap):Prop:=
 lp (α:=Int×Int) (0,0) H (fun x1 J2 H3=>
 ift (decide ((x1.2:Int) < (Sl.len p_l:Int)))
 (ixa p_l x1.2 fun p5=>
 ldT H3 Qk.c (p5.1,p5.2+(x1.2:Int).toNat*6) fun x10=>
 nw (Qk.c Qk.zero) (fun b12 H13=>
 stT (b12,0) (Qk.c x10) (fun H14=>
 ldT H14 Qk.c (b12,0) fun x15=>
 callU Tryz.prog C p_depth [.agg (Qk.c x15).toArray] H14 (fun v H18=>∃ (r17:Int),v=.int .i64 r17∧
 J2 ((if r17 > x1.1 then r17 else x1.1:Int),(w .i64 (x1.2+1))) H18)) H13) H3)
 (K x1.1 H3))
theorem Qh2 (C p_l p_depth K H) (h:Qe8 C p_l p_depth K H):Q8 C p_l p_depth K H:=by
 refine Ye Tryz.func121 rfl Tryz.ntmps121 [(0,slv p_l),(1,p_depth)] (Zo (Za (GL.nil (Zo (Za (GL.nil (GC.seq (Zo (Zm (Zq (Zm (GL.nil (GC.block (Yp h (fun x1=>[(5,.int .i64 x1.1),(10,.int .i64 x1.2),(1,p_depth),(8,slv p_l),(9,.int .i64 (Sl.len p_l:Int))]) ?_))))))))))))))
 intro x1 H3 J2 h
 refine Zo (Zi (.bool (decide ((x1.2:Int) < (Sl.len p_l:Int)))) (GL.nil (GC.seq (Yd h (fun u4 h=>?_) fun u4 h=>?_))))
 refine GC.skip (GC.seq (GC.block (Zo (Yx h fun p5 h=>?_))))
 obtain ⟨x10,v11,h⟩:=h
 refine Zv (OV.loadT rfl rfl rfl v11) (GL.alloc (cs:=Qk.c Qk.zero) h trivial rfl rfl rfl ?_)
 intro b12 H13 h
 refine GL.storeT (p:=(b12,0)) (vs:=Qk.c x10) h trivial rfl rfl rfl rfl ?_
 intro H14 h
 refine GL.nil (GC.region (Zm (Zm ?_)))
 obtain ⟨x15,v16,h⟩:=h
 refine Zv (OV.loadT rfl rfl rfl v16) (GL.callU (xv:=p_depth) (vs:=[.agg (Qk.c x15).toArray]) h trivial rfl rfl rfl ?_)
 rintro _ H18 ⟨r17,rfl,h⟩
 refine Zv (OV.maxI rfl rfl) (Za (GL.nil_to (fun _ _ h=>h) (GC.region (Zi (.int .i64 (w .i64 (x1.2+1))) (Zm ?_)))))
 exact Yj I3 ((if r17 > x1.1 then r17 else x1.1:Int),(w .i64 (x1.2+1))) h
 refine GC.exit_to (fun _ _ h=>h) (Zo (Zm (Za (GL.nil ?_))))
 exact Y1 I3 ⟨x1.1,rfl,h⟩
def Qlx (C:Ctx) (p_x:Qk) (K:Int→Heap→Prop) (H:Heap):Prop:=
 nw (Qk.c p_x) (fun b1 H2=>
 dr H2 fun Hs3=>
 ldL Hs3 ((b1,0).1,(b1,0).2+3) fun x5=>
 ldL Hs3 ((b1,0).1,(b1,0).2+5) fun x7=>
 QJ C x5 (.func (.func 91) (List.toArray []) (List.toArray []):Value) (fun r10 H11=>
 Heap.le Hs3 H11∧
 QG C x7 (.func (.func 125) (List.toArray []) (List.toArray []):Value) (fun r13 H14=>
 Heap.le Hs3 H14∧
 K (if r13 > r10 then r13 else r10:Int) H14) H11) H2) H
theorem Qph (C p_x K H) (h:Qlx C p_x K H):Qen C p_x K H:=by
 refine Ye Tryz.func122 rfl Tryz.ntmps122 [(0,.agg (Qk.c p_x).toArray)] (Zo (GL.box (v:=.agg (Qk.c p_x).toArray) (cs:=Qk.c p_x) h trivial rfl rfl rfl ?_))
 intro b1 H2 h
 refine Za (GL.nil (GC.seq ?_))
 obtain ⟨Hs3,hle4,h⟩:=h
 refine GC.any (Hs:=Hs3) (by kernel_rfl) hle4 (Zp 0 rfl Yf ?_)
 obtain ⟨x5,v6,h⟩:=h
 refine Zp 1 rfl (Yo v6) (Zp 3 rfl Yf ?_)
 obtain ⟨x7,v8,h⟩:=h
 refine Zp 4 rfl (Yo v8) (GA.eff 2 rfl (by kernel_rfl) (Zc h QcQ ?_))
 rintro _ H11 ⟨r10,rfl,h⟩
 obtain ⟨hle9,h⟩:=h
 refine GA.back hle9 (GA.eff 5 rfl (by kernel_rfl) (Zc h Qd8 ?_))
 rintro _ H14 ⟨r13,rfl,h⟩
 obtain ⟨hle12,h⟩:=h
 refine GA.back hle12 (Zp 6 rfl (OV.maxI rfl rfl) (Zp 7 rfl Ya (GA.done (by kernel_rfl) (GL.nil ?_))))
 exact Y1 I3 ⟨(if r13 > r10 then r13 else r10:Int),rfl,h⟩
def Qe7 (C:Ctx) (p_l:Sl) (p_depth:Value) (K:Int→Heap→Prop) (H:Heap):Prop:=
 lp (α:=Int×Int) (0,0) H (fun x1 J2 H3=>
 ift (decide ((x1.2:Int) < (Sl.len p_l:Int)))
 (ixa p_l x1.2 fun p5=>
 ldT H3 Qa.c (p5.1,p5.2+(x1.2:Int).toNat*9) fun x10=>
 nw (Qa.c Qa.zero) (fun b12 H13=>
 stT (b12,0) (Qa.c x10) (fun H14=>
 ldT H14 Qa.c (b12,0) fun x15=>
 callU Tryz.prog C p_depth [.agg (Qa.c x15).toArray] H14 (fun v H18=>∃ (r17:Int),v=.int .i64 r17∧
 J2 ((if r17 > x1.1 then r17 else x1.1:Int),(w .i64 (x1.2+1))) H18)) H13) H3)
 (K x1.1 H3))
theorem Qh1 (C p_l p_depth K H) (h:Qe7 C p_l p_depth K H):QJ C p_l p_depth K H:=by
 refine Ye Tryz.func123 rfl Tryz.ntmps123 [(0,slv p_l),(1,p_depth)] (Zo (Za (GL.nil (Zo (Za (GL.nil (GC.seq (Zo (Zm (Zq (Zm (GL.nil (GC.block (Yp h (fun x1=>[(5,.int .i64 x1.1),(10,.int .i64 x1.2),(1,p_depth),(8,slv p_l),(9,.int .i64 (Sl.len p_l:Int))]) ?_))))))))))))))
 intro x1 H3 J2 h
 refine Zo (Zi (.bool (decide ((x1.2:Int) < (Sl.len p_l:Int)))) (GL.nil (GC.seq (Yd h (fun u4 h=>?_) fun u4 h=>?_))))
 refine GC.skip (GC.seq (GC.block (Zo (Yx h fun p5 h=>?_))))
 obtain ⟨x10,v11,h⟩:=h
 refine Zv (OV.loadT rfl rfl rfl v11) (GL.alloc (cs:=Qa.c Qa.zero) h trivial rfl rfl rfl ?_)
 intro b12 H13 h
 refine GL.storeT (p:=(b12,0)) (vs:=Qa.c x10) h trivial rfl rfl rfl rfl ?_
 intro H14 h
 refine GL.nil (GC.region (Zm (Zm ?_)))
 obtain ⟨x15,v16,h⟩:=h
 refine Zv (OV.loadT rfl rfl rfl v16) (GL.callU (xv:=p_depth) (vs:=[.agg (Qa.c x15).toArray]) h trivial rfl rfl rfl ?_)
 rintro _ H18 ⟨r17,rfl,h⟩
 refine Zv (OV.maxI rfl rfl) (Za (GL.nil_to (fun _ _ h=>h) (GC.region (Zi (.int .i64 (w .i64 (x1.2+1))) (Zm ?_)))))
 exact Yj I3 ((if r17 > x1.1 then r17 else x1.1:Int),(w .i64 (x1.2+1))) h
 refine GC.exit_to (fun _ _ h=>h) (Zo (Zm (Za (GL.nil ?_))))
 exact Y1 I3 ⟨x1.1,rfl,h⟩
def Qec (C:Ctx) (p_l:Sl) (p_depth:Value) (K:Int→Heap→Prop) (H:Heap):Prop:=
 lp (α:=Int×Int) (0,0) H (fun x1 J2 H3=>
 ift (decide ((x1.2:Int) < (Sl.len p_l:Int)))
 (ixa p_l x1.2 fun p5=>
 ldT H3 Qc.c (p5.1,p5.2+(x1.2:Int).toNat*5) fun x10=>
 nw (Qc.c Qc.zero) (fun b12 H13=>
 stT (b12,0) (Qc.c x10) (fun H14=>
 ldT H14 Qc.c (b12,0) fun x15=>
 callU Tryz.prog C p_depth [.agg (Qc.c x15).toArray] H14 (fun v H18=>∃ (r17:Int),v=.int .i64 r17∧
 J2 ((if r17 > x1.1 then r17 else x1.1:Int),(w .i64 (x1.2+1))) H18)) H13) H3)
 (K x1.1 H3))
theorem QgG (C p_l p_depth K H) (h:Qec C p_l p_depth K H):QG C p_l p_depth K H:=by
 refine Ye Tryz.func124 rfl Tryz.ntmps124 [(0,slv p_l),(1,p_depth)] (Zo (Za (GL.nil (Zo (Za (GL.nil (GC.seq (Zo (Zm (Zq (Zm (GL.nil (GC.block (Yp h (fun x1=>[(5,.int .i64 x1.1),(10,.int .i64 x1.2),(1,p_depth),(8,slv p_l),(9,.int .i64 (Sl.len p_l:Int))]) ?_))))))))))))))
 intro x1 H3 J2 h
 refine Zo (Zi (.bool (decide ((x1.2:Int) < (Sl.len p_l:Int)))) (GL.nil (GC.seq (Yd h (fun u4 h=>?_) fun u4 h=>?_))))
 refine GC.skip (GC.seq (GC.block (Zo (Yx h fun p5 h=>?_))))
 obtain ⟨x10,v11,h⟩:=h
 refine Zv (OV.loadT rfl rfl rfl v11) (GL.alloc (cs:=Qc.c Qc.zero) h trivial rfl rfl rfl ?_)
 intro b12 H13 h
 refine GL.storeT (p:=(b12,0)) (vs:=Qc.c x10) h trivial rfl rfl rfl rfl ?_
 intro H14 h
 refine GL.nil (GC.region (Zm (Zm ?_)))
 obtain ⟨x15,v16,h⟩:=h
 refine Zv (OV.loadT rfl rfl rfl v16) (GL.callU (xv:=p_depth) (vs:=[.agg (Qc.c x15).toArray]) h trivial rfl rfl rfl ?_)
 rintro _ H18 ⟨r17,rfl,h⟩
 refine Zv (OV.maxI rfl rfl) (Za (GL.nil_to (fun _ _ h=>h) (GC.region (Zi (.int .i64 (w .i64 (x1.2+1))) (Zm ?_)))))
 exact Yj I3 ((if r17 > x1.1 then r17 else x1.1:Int),(w .i64 (x1.2+1))) h
 refine GC.exit_to (fun _ _ h=>h) (Zo (Zm (Za (GL.nil ?_))))
 exact Y1 I3 ⟨x1.1,rfl,h⟩
def Qgq (C:Ctx) (p_x:Qc) (K:Int→Heap→Prop) (H:Heap):Prop:=
 nw (Qc.c p_x) (fun b1 H2=>
 ldL H2 ((b1,0).1,(b1,0).2+4) fun x3=>
 QJ C x3 (.func (.func 91) (List.toArray []) (List.toArray []):Value) (fun r5 H6=>
 K r5 H6) H2) H
theorem QkH (C p_x K H) (h:Qgq C p_x K H):Qbo C p_x K H:=by
 refine Ye Tryz.func125 rfl Tryz.ntmps125 [(0,.agg (Qc.c p_x).toArray)] (Zo (GL.box (v:=.agg (Qc.c p_x).toArray) (cs:=Qc.c p_x) h trivial rfl rfl rfl ?_))
 intro b1 H2 h
 refine Za (GL.nil (Zo (Zf (Yl h fun x3 h=>?_))))
 refine Zc h QcQ ?_
 rintro _ H6 ⟨r5,rfl,h⟩
 refine Za (GL.nil ?_)
 exact Y1 I3 ⟨r5,rfl,h⟩
def QeS (C:Ctx) (p_l:Sl) (p_depth:Value) (K:Int→Heap→Prop) (H:Heap):Prop:=
 lp (α:=Int×Int) (0,0) H (fun x1 J2 H3=>
 ift (decide ((x1.2:Int) < (Sl.len p_l:Int)))
 (ixa p_l x1.2 fun p5=>
 ldT H3 Ql.c (p5.1,p5.2+(x1.2:Int).toNat*4) fun x10=>
 nw (Ql.c Ql.zero) (fun b12 H13=>
 stT (b12,0) (Ql.c x10) (fun H14=>
 ldT H14 Ql.c (b12,0) fun x15=>
 callU Tryz.prog C p_depth [.agg (Ql.c x15).toArray] H14 (fun v H18=>∃ (r17:Int),v=.int .i64 r17∧
 J2 ((if r17 > x1.1 then r17 else x1.1:Int),(w .i64 (x1.2+1))) H18)) H13) H3)
 (K x1.1 H3))
theorem QhA (C p_l p_depth K H) (h:QeS C p_l p_depth K H):Q3 C p_l p_depth K H:=by
 refine Ye Tryz.func126 rfl Tryz.ntmps126 [(0,slv p_l),(1,p_depth)] (Zo (Za (GL.nil (Zo (Za (GL.nil (GC.seq (Zo (Zm (Zq (Zm (GL.nil (GC.block (Yp h (fun x1=>[(5,.int .i64 x1.1),(10,.int .i64 x1.2),(1,p_depth),(8,slv p_l),(9,.int .i64 (Sl.len p_l:Int))]) ?_))))))))))))))
 intro x1 H3 J2 h
 refine Zo (Zi (.bool (decide ((x1.2:Int) < (Sl.len p_l:Int)))) (GL.nil (GC.seq (Yd h (fun u4 h=>?_) fun u4 h=>?_))))
 refine GC.skip (GC.seq (GC.block (Zo (Yx h fun p5 h=>?_))))
 obtain ⟨x10,v11,h⟩:=h
 refine Zv (OV.loadT rfl rfl rfl v11) (GL.alloc (cs:=Ql.c Ql.zero) h trivial rfl rfl rfl ?_)
 intro b12 H13 h
 refine GL.storeT (p:=(b12,0)) (vs:=Ql.c x10) h trivial rfl rfl rfl rfl ?_
 intro H14 h
 refine GL.nil (GC.region (Zm (Zm ?_)))
 obtain ⟨x15,v16,h⟩:=h
 refine Zv (OV.loadT rfl rfl rfl v16) (GL.callU (xv:=p_depth) (vs:=[.agg (Ql.c x15).toArray]) h trivial rfl rfl rfl ?_)
 rintro _ H18 ⟨r17,rfl,h⟩
 refine Zv (OV.maxI rfl rfl) (Za (GL.nil_to (fun _ _ h=>h) (GC.region (Zi (.int .i64 (w .i64 (x1.2+1))) (Zm ?_)))))
 exact Yj I3 ((if r17 > x1.1 then r17 else x1.1:Int),(w .i64 (x1.2+1))) h
 refine GC.exit_to (fun _ _ h=>h) (Zo (Zm (Za (GL.nil ?_))))
 exact Y1 I3 ⟨x1.1,rfl,h⟩
def Qly (C:Ctx) (p_x:Ql) (K:Int→Heap→Prop) (H:Heap):Prop:=
 nw (Ql.c p_x) (fun b1 H2=>
 ldL H2 ((b1,0).1,(b1,0).2+3) fun x3=>
 QG C x3 (.func (.func 125) (List.toArray []) (List.toArray []):Value) (fun r5 H6=>
 K r5 H6) H2) H
theorem Qpi (C p_x K H) (h:Qly C p_x K H):Qeo C p_x K H:=by
 refine Ye Tryz.func127 rfl Tryz.ntmps127 [(0,.agg (Ql.c p_x).toArray)] (Zo (GL.box (v:=.agg (Ql.c p_x).toArray) (cs:=Ql.c p_x) h trivial rfl rfl rfl ?_))
 intro b1 H2 h
 refine Za (GL.nil (Zo (Zf (Yl h fun x3 h=>?_))))
 refine Zc h Qd8 ?_
 rintro _ H6 ⟨r5,rfl,h⟩
 refine Za (GL.nil ?_)
 exact Y1 I3 ⟨r5,rfl,h⟩
def Qnz (C:Ctx) (p_s:Str) (K:Bool→Heap→Prop) (H:Heap):Prop:=
 lp (α:=Int) 0 H (fun x1 J2 H3=>
 ift (decide ((x1:Int) < (List.length p_s:Int)))
 (ixs p_s x1 fun c5=>
 ift (!(((((decide (((c5.toNat:Int):Int) ≥ 97)) && (decide (((c5.toNat:Int):Int)≤122))) || ((decide (((c5.toNat:Int):Int) ≥ 65)) && (decide (((c5.toNat:Int):Int)≤90)))) || ((decide (((c5.toNat:Int):Int) ≥ 48)) && (decide (((c5.toNat:Int):Int)≤57)))) || (((c5.toNat:Int):Int) == 95)))
 (K false H3)
 (J2 (w .i64 (x1+1)) H3))
 (K (decide (((List.length p_s:Int):Int)≤32)) H3))
theorem QqT (C p_s K H) (h:Qnz C p_s K H):QiY C p_s K H:=by
 refine Ye Tryz.func128 rfl Tryz.ntmps128 [(0,sv p_s)] (Zo (Za (GL.nil (GC.seq (Zo (Zm (Zr (Zm (GL.nil (GC.block (Yp h (fun x1=>[(7,.int .i64 x1),(0,sv p_s),(6,.int .i64 (List.length p_s:Int))]) ?_)))))))))))
 intro x1 H3 J2 h
 refine Zo (Zi (.bool (decide ((x1:Int) < (List.length p_s:Int)))) (GL.nil (GC.seq (Yd h (fun hc4 h=>?_) fun hc4 h=>?_))))
 refine GC.skip (GC.seq (GC.block (Zo (Zm (Za (GL.nil (Zo (Zm (Zm (Ys h fun c5 h=>?_))))))))))
 refine Za (GL.nil (Zo (Zm (Zi (.bool (decide (((c5.toNat:Int):Int) ≥ 97))) (Zm (GL.cut0 3 [(18,.bool ((decide (((c5.toNat:Int):Int) ≥ 97)) && (decide (((c5.toNat:Int):Int)≤122)))),(0,sv p_s),(4,.int .u8 (c5.toNat:Int)),(6,.int .i64 (List.length p_s:Int)),(7,.int .i64 x1)] ?_ ?_))))))
 rcases Zb (decide (((c5.toNat:Int):Int) ≥ 97)) with hc8 | hc8
 refine Zu hc8 Ym (Zu hc8 (OV.ibin (v:=.bool (decide (((c5.toNat:Int):Int)≤122))) rfl rfl rfl) (Zt hc8 ?_))
 exact GL.jump0 (fun _ _ h=>h) () rfl ⟨(by rw [hc8]; rfl),rfl,rfl,rfl,rfl,trivial⟩
 refine Zk hc8 (Zk hc8 (Zn hc8 ?_))
 exact GL.jump0 (fun _ _ h=>h) () rfl ⟨(by rw [hc8]; rfl),rfl,rfl,rfl,rfl,trivial⟩
 refine Zm (GL.cut0 7 [(26,.bool (((decide (((c5.toNat:Int):Int) ≥ 97)) && (decide (((c5.toNat:Int):Int)≤122))) || ((decide (((c5.toNat:Int):Int) ≥ 65)) && (decide (((c5.toNat:Int):Int)≤90))))),(0,sv p_s),(4,.int .u8 (c5.toNat:Int)),(6,.int .i64 (List.length p_s:Int)),(7,.int .i64 x1)] ?_ ?_)
 rcases Zb ((decide (((c5.toNat:Int):Int) ≥ 97)) && (decide (((c5.toNat:Int):Int)≤122))) with hc9 | hc9
 refine Zk hc9 (Zk hc9 (Zk hc9 (GL.skip ⟨_,rfl,.inr rfl⟩ rfl (GL.skip ⟨_,rfl,.inr rfl⟩ rfl (Zk hc9 (Zt hc9 ?_))))))
 exact GL.jump0 (fun _ _ h=>h) () rfl ⟨(by rw [hc9]; rfl),rfl,rfl,rfl,rfl,trivial⟩
 refine Zu hc9 Ym (Zu hc9 (OV.ibin (v:=.bool (decide (((c5.toNat:Int):Int) ≥ 65))) rfl rfl rfl) (Zu hc9 Ym (GL.cut0 3 [(25,.bool ((decide (((c5.toNat:Int):Int) ≥ 65)) && (decide (((c5.toNat:Int):Int)≤90)))),(0,sv p_s),(4,.int .u8 (c5.toNat:Int)),(6,.int .i64 (List.length p_s:Int)),(7,.int .i64 x1),(19,.bool ((decide (((c5.toNat:Int):Int) ≥ 97)) && (decide (((c5.toNat:Int):Int)≤122))))] ?_ ?_)))
 rcases Zb (decide (((c5.toNat:Int):Int) ≥ 65)) with hc10 | hc10
 refine Zu hc10 Ym (Zu hc10 (OV.ibin (v:=.bool (decide (((c5.toNat:Int):Int)≤90))) rfl rfl rfl) (Zu hc9 (OV.pickT rfl hc10 rfl) ?_))
 exact GL.jump0 (fun _ _ h=>h) () rfl ⟨(by rw [hc10]; rfl),rfl,rfl,rfl,rfl,rfl,trivial⟩
 refine Zk hc10 (Zk hc10 (Zu hc9 (OV.pickF rfl hc10 rfl) ?_))
 exact GL.jump0 (fun _ _ h=>h) () rfl ⟨(by rw [hc10]; rfl),rfl,rfl,rfl,rfl,rfl,trivial⟩
 refine Zn hc9 ?_
 exact GL.jump0 (fun _ _ h=>h) () rfl ⟨(by rw [hc9]; rfl),rfl,rfl,rfl,rfl,trivial⟩
 refine Zm (GL.cut0 7 [(34,.bool ((((decide (((c5.toNat:Int):Int) ≥ 97)) && (decide (((c5.toNat:Int):Int)≤122))) || ((decide (((c5.toNat:Int):Int) ≥ 65)) && (decide (((c5.toNat:Int):Int)≤90)))) || ((decide (((c5.toNat:Int):Int) ≥ 48)) && (decide (((c5.toNat:Int):Int)≤57))))),(0,sv p_s),(4,.int .u8 (c5.toNat:Int)),(6,.int .i64 (List.length p_s:Int)),(7,.int .i64 x1)] ?_ ?_)
 rcases Zb (((decide (((c5.toNat:Int):Int) ≥ 97)) && (decide (((c5.toNat:Int):Int)≤122))) || ((decide (((c5.toNat:Int):Int) ≥ 65)) && (decide (((c5.toNat:Int):Int)≤90)))) with hc11 | hc11
 refine Zk hc11 (Zk hc11 (Zk hc11 (GL.skip ⟨_,rfl,.inr rfl⟩ rfl (GL.skip ⟨_,rfl,.inr rfl⟩ rfl (Zk hc11 (Zt hc11 ?_))))))
 exact GL.jump0 (fun _ _ h=>h) () rfl ⟨(by rw [hc11]; rfl),rfl,rfl,rfl,rfl,trivial⟩
 refine Zu hc11 Ym (Zu hc11 (OV.ibin (v:=.bool (decide (((c5.toNat:Int):Int) ≥ 48))) rfl rfl rfl) (Zu hc11 Ym (GL.cut0 3 [(33,.bool ((decide (((c5.toNat:Int):Int) ≥ 48)) && (decide (((c5.toNat:Int):Int)≤57)))),(0,sv p_s),(4,.int .u8 (c5.toNat:Int)),(6,.int .i64 (List.length p_s:Int)),(7,.int .i64 x1),(27,.bool (((decide (((c5.toNat:Int):Int) ≥ 97)) && (decide (((c5.toNat:Int):Int)≤122))) || ((decide (((c5.toNat:Int):Int) ≥ 65)) && (decide (((c5.toNat:Int):Int)≤90)))))] ?_ ?_)))
 rcases Zb (decide (((c5.toNat:Int):Int) ≥ 48)) with hc12 | hc12
 refine Zu hc12 Ym (Zu hc12 (OV.ibin (v:=.bool (decide (((c5.toNat:Int):Int)≤57))) rfl rfl rfl) (Zu hc11 (OV.pickT rfl hc12 rfl) ?_))
 exact GL.jump0 (fun _ _ h=>h) () rfl ⟨(by rw [hc12]; rfl),rfl,rfl,rfl,rfl,rfl,trivial⟩
 refine Zk hc12 (Zk hc12 (Zu hc11 (OV.pickF rfl hc12 rfl) ?_))
 exact GL.jump0 (fun _ _ h=>h) () rfl ⟨(by rw [hc12]; rfl),rfl,rfl,rfl,rfl,rfl,trivial⟩
 refine Zn hc11 ?_
 exact GL.jump0 (fun _ _ h=>h) () rfl ⟨(by rw [hc11]; rfl),rfl,rfl,rfl,rfl,trivial⟩
 refine Zm (GL.cut0 3 [(38,.bool (((((decide (((c5.toNat:Int):Int) ≥ 97)) && (decide (((c5.toNat:Int):Int)≤122))) || ((decide (((c5.toNat:Int):Int) ≥ 65)) && (decide (((c5.toNat:Int):Int)≤90)))) || ((decide (((c5.toNat:Int):Int) ≥ 48)) && (decide (((c5.toNat:Int):Int)≤57)))) || (((c5.toNat:Int):Int) == 95))),(0,sv p_s),(6,.int .i64 (List.length p_s:Int)),(7,.int .i64 x1)] ?_ ?_)
 rcases Zb ((((decide (((c5.toNat:Int):Int) ≥ 97)) && (decide (((c5.toNat:Int):Int)≤122))) || ((decide (((c5.toNat:Int):Int) ≥ 65)) && (decide (((c5.toNat:Int):Int)≤90)))) || ((decide (((c5.toNat:Int):Int) ≥ 48)) && (decide (((c5.toNat:Int):Int)≤57)))) with hc13 | hc13
 refine Zk hc13 (Zk hc13 (Zt hc13 ?_))
 exact GL.jump0 (fun _ _ h=>h) () rfl ⟨(by rw [hc13]; rfl),rfl,rfl,rfl,trivial⟩
 refine Zu hc13 Ym (Zu hc13 (OV.ibin (v:=.bool (((c5.toNat:Int):Int) == 95)) rfl rfl rfl) (Zn hc13 ?_))
 exact GL.jump0 (fun _ _ h=>h) () rfl ⟨(by rw [hc13]; rfl),rfl,rfl,rfl,trivial⟩
 refine Zv (OV.not rfl) (GL.nil (Yd h (fun hc14 h=>?_) fun hc14 h=>?_))
 refine Zo (Za (GL.nil ?_))
 exact Y1 I3 ⟨false,rfl,h⟩
 refine GC.skip_to (fun _ _ h=>h) (GC.region (Zi (.int .i64 (w .i64 (x1+1))) (Zm ?_)))
 exact Yj I3 (w .i64 (x1+1)) h
 refine GC.exit_to (fun _ _ h=>h) (Zo (Zm (Zr (Zi (.bool (decide (((List.length p_s:Int):Int)≤32))) (Za (GL.nil ?_))))))
 exact Y1 I3 ⟨(decide (((List.length p_s:Int):Int)≤32)),rfl,h⟩
def QaS (C:Ctx) (p_s:Sl) (p_f:Value) (K:Bool→Heap→Prop) (H:Heap):Prop:=
 Qbs C p_s p_f (fun r1 H2=>
 K (decide ((r1:Int) ≥ 0)) H2) H
theorem QcR (C p_s p_f K H) (h:QaS C p_s p_f K H):QaY C p_s p_f K H:=by
 refine Ye Tryz.func130 rfl Tryz.ntmps130 [(0,slv p_s),(1,p_f)] (Zo (Za (GL.nil (Zo (Zm (Zm (Zc h QdJ ?_)))))))
 rintro _ H2 ⟨r1,rfl,h⟩
 refine Zi (.bool (decide ((r1:Int) ≥ 0))) (Za (GL.nil ?_))
 exact Y1 I3 ⟨(decide ((r1:Int) ≥ 0)),rfl,h⟩
def QiD (C:Ctx) (p_x:Qn) (v0:Nat×Nat) (K:Bool→Heap→Prop) (H:Heap):Prop:=
 nw (Qn.c p_x) (fun b1 H2=>
 ldV H2 v0 fun x3=>
 ldT H2 Qn.c (b1,0) fun x5=>
 callU Tryz.prog C x3 [.agg (Qn.c x5).toArray] H2 (fun v H8=>∃ (r7:Bool),v=.bool r7∧
 K (!r7) H8)) H
theorem QhZ (C p_x v0 K H) (h:QiD C p_x v0 K H):QiW C p_x v0 K H:=by
 refine Ye Tryz.func131 rfl Tryz.ntmps131 [(0,.agg (Qn.c p_x).toArray),(1,pv (some v0))] (Zo (GL.box (v:=.agg (Qn.c p_x).toArray) (cs:=Qn.c p_x) h trivial rfl rfl rfl ?_))
 intro b1 H2 h
 refine Za (GL.nil (Zo (Yl h fun x3 h=>?_)))
 obtain ⟨x5,hr6,h⟩:=h
 refine Zv (OV.loadT rfl rfl rfl hr6) (GL.callU (xv:=x3) (vs:=[.agg (Qn.c x5).toArray]) h trivial rfl rfl rfl ?_)
 rintro _ H8 ⟨r7,rfl,h⟩
 refine Zv (OV.not rfl) (Za (GL.nil ?_))
 exact Y1 I3 ⟨(!r7),rfl,h⟩
def QaE (C:Ctx) (p_s:Sl) (p_f:Value) (K:Bool→Heap→Prop) (H:Heap):Prop:=
 Qbe C p_s p_f (fun r1 H2=>
 K (decide ((r1:Int) ≥ 0)) H2) H
theorem QcD (C p_s p_f K H) (h:QaE C p_s p_f K H):QaN C p_s p_f K H:=by
 refine Ye Tryz.func132 rfl Tryz.ntmps132 [(0,slv p_s),(1,p_f)] (Zo (Za (GL.nil (Zo (Zm (Zm (Zc h Qdi ?_)))))))
 rintro _ H2 ⟨r1,rfl,h⟩
 refine Zi (.bool (decide ((r1:Int) ≥ 0))) (Za (GL.nil ?_))
 exact Y1 I3 ⟨(decide ((r1:Int) ≥ 0)),rfl,h⟩
def QhW (C:Ctx) (p_x:Qf) (v0:Nat×Nat) (K:Bool→Heap→Prop) (H:Heap):Prop:=
 nw (Qf.c p_x) (fun b1 H2=>
 ldV H2 v0 fun x3=>
 ldT H2 Qf.c (b1,0) fun x5=>
 callU Tryz.prog C x3 [.agg (Qf.c x5).toArray] H2 (fun v H8=>∃ (r7:Bool),v=.bool r7∧
 K (!r7) H8)) H
theorem Qhy (C p_x v0 K H) (h:QhW C p_x v0 K H):Qib C p_x v0 K H:=by
 refine Ye Tryz.func133 rfl Tryz.ntmps133 [(0,.agg (Qf.c p_x).toArray),(1,pv (some v0))] (Zo (GL.box (v:=.agg (Qf.c p_x).toArray) (cs:=Qf.c p_x) h trivial rfl rfl rfl ?_))
 intro b1 H2 h
 refine Za (GL.nil (Zo (Yl h fun x3 h=>?_)))
 obtain ⟨x5,hr6,h⟩:=h
 refine Zv (OV.loadT rfl rfl rfl hr6) (GL.callU (xv:=x3) (vs:=[.agg (Qf.c x5).toArray]) h trivial rfl rfl rfl ?_)
 rintro _ H8 ⟨r7,rfl,h⟩
 refine Zv (OV.not rfl) (Za (GL.nil ?_))
 exact Y1 I3 ⟨(!r7),rfl,h⟩
def Qhp (C:Ctx) (p_l:Sl) (p_is:Value) (K:Bool→Heap→Prop) (H:Heap):Prop:=
 (Value.cells p_is = #[p_is])∧nw ([p_is]) (fun b1 H2=>
 Qb7 C p_l (.func (.func 186) (List.toArray []) (List.toArray [pv (some (b1,0))]):Value) (fun r4 H5=>
 K (!r4) H5) H2) H
theorem Ql4 (C p_l p_is K H) (h:Qhp C p_l p_is K H):QaO C p_l p_is K H:=by
 refine Ye Tryz.func134 rfl Tryz.ntmps134 [(0,slv p_l),(1,p_is)] (Zo ?_)
 obtain ⟨u3,h⟩:=h
 refine GL.box (v:=p_is) (cs:=[p_is]) h trivial rfl rfl u3 ?_
 intro b1 H2 h
 refine Za (GL.nil (Zo (Zm (Zv (OV.makeFunc (vs:=[]) (us:=[pv (some (b1,0))]) rfl rfl) (Zc h QeN ?_)))))
 rintro _ H5 ⟨r4,rfl,h⟩
 refine Zv (OV.not rfl) (Za (GL.nil ?_))
 exact Y1 I3 ⟨(!r4),rfl,h⟩
def QmO (C:Ctx) (p_s:Str) (K:Bool→Heap→Prop) (H:Heap):Prop:=
 QgL C p_s [39] (fun r1 H2=>
 jn (α:=Bool) (fun b3 H15=>
 K b3 H15)
 (fun J4=>ift r1
 (slS p_s 1 (List.length p_s:Int) fun t7=>
 Qbp C t7 (fun r13 H14=>
 J4 r13 H14) H2)
 (J4 false H2))) H
theorem Qqk (C p_s K H) (h:QmO C p_s K H):QjZ C p_s K H:=by
 refine Ye Tryz.func135 rfl Tryz.ntmps135 [(0,sv p_s)] (Zo (Za (GL.nil (Zo (Zm (Zc h QkL ?_))))))
 rintro _ H2 ⟨r1,rfl,h⟩
 refine Zm ?_
 obtain ⟨J4,h,hR5⟩:=h
 refine GL.cut (α:=Bool) 4 J4 (fun b3=>[(9,.bool b3)]) ?_ ?_
 rcases h.em with ⟨u6,h⟩ | ⟨u6,h⟩
 refine Zu u6 Ym ?_
 obtain ⟨h8,h9,h10,t7,h11,h⟩:=h
 refine Zu u6 (OV.sliceStr (s:=p_s) h8 h9 h10 h11 rfl rfl rfl rfl rfl rfl) (GL.call h (Yt u6) rfl QbC (vs:=[sv t7]) rfl ?_)
 rintro _ H14 ⟨r13,rfl,h⟩
 refine Zt u6 ?_
 exact Yj I3 r13 h
 refine Zk u6 (Zk u6 (Zk u6 (Zn u6 ?_)))
 exact Yj I3 false h
 intro b3 H15 h
 replace h:=hR5 b3 H15 h
 refine Za (GL.nil ?_)
 exact Y1 I3 ⟨b3,rfl,h⟩
def Qfy (C:Ctx) (p_l:Sl) (p_is:Value) (K:Bool→Heap→Prop) (H:Heap):Prop:=
 (Value.cells p_is = #[p_is])∧nw ([p_is]) (fun b1 H2=>
 QaL C p_l (.func (.func 189) (List.toArray []) (List.toArray [pv (some (b1,0))]):Value) (fun r4 H5=>
 K (!r4) H5) H2) H
theorem QiK (C p_l p_is K H) (h:Qfy C p_l p_is K H):Qag C p_l p_is K H:=by
 refine Ye Tryz.func136 rfl Tryz.ntmps136 [(0,slv p_l),(1,p_is)] (Zo ?_)
 obtain ⟨u3,h⟩:=h
 refine GL.box (v:=p_is) (cs:=[p_is]) h trivial rfl rfl u3 ?_
 intro b1 H2 h
 refine Za (GL.nil (Zo (Zm (Zv (OV.makeFunc (vs:=[]) (us:=[pv (some (b1,0))]) rfl rfl) (Zc h QcE ?_)))))
 rintro _ H5 ⟨r4,rfl,h⟩
 refine Zv (OV.not rfl) (Za (GL.nil ?_))
 exact Y1 I3 ⟨(!r4),rfl,h⟩
def QiH (C:Ctx) (p_c:Qh) (K:Bool→Heap→Prop) (H:Heap):Prop:=
 nw (Qh.c p_c) (fun b1 H2=>
 ldS H2 ((b1,0).1,(b1,0).2+0) fun x3=>
 Qbp C x3 (fun r5 H6=>
 jn (α:=Bool) (fun b7 H15=>
 K b7 H15)
 (fun J8=>ift r5
 (ldL H6 ((b1,0).1,(b1,0).2+1) fun x11=>
 Qcn C x11 false (fun r13 H14=>
 J8 r13 H14) H6)
 (J8 false H6))) H2) H
theorem Qm4 (C p_c K H) (h:QiH C p_c K H):Qcf C p_c K H:=by
 refine Ye Tryz.func137 rfl Tryz.ntmps137 [(0,.agg (Qh.c p_c).toArray)] (Zo (GL.box (v:=.agg (Qh.c p_c).toArray) (cs:=Qh.c p_c) h trivial rfl rfl rfl ?_))
 intro b1 H2 h
 refine Za (GL.nil (Zo (Zf (Yl h fun x3 h=>?_))))
 refine Zc h QbC ?_
 rintro _ H6 ⟨r5,rfl,h⟩
 refine Zm ?_
 obtain ⟨J8,h,hR9⟩:=h
 refine GL.cut (α:=Bool) 4 J8 (fun b7=>[(10,.bool b7)]) ?_ ?_
 rcases h.em with ⟨u10,h⟩ | ⟨u10,h⟩
 refine Zu u10 Yf ?_
 obtain ⟨x11,v12,h⟩:=h
 refine Zu u10 (Yo v12) (GL.call h (Yt u10) rfl Qk6 (vs:=[slv x11,.bool false]) rfl ?_)
 rintro _ H14 ⟨r13,rfl,h⟩
 refine Zt u10 ?_
 exact Yj I3 r13 h
 refine Zk u10 (Zk u10 (Zk u10 (Zn u10 ?_)))
 exact Yj I3 false h
 intro b7 H15 h
 replace h:=hR9 b7 H15 h
 refine Za (GL.nil ?_)
 exact Y1 I3 ⟨b7,rfl,h⟩
def QaT (C:Ctx) (p_s:Sl) (p_f:Value) (K:Bool→Heap→Prop) (H:Heap):Prop:=
 Qbt C p_s p_f (fun r1 H2=>
 K (decide ((r1:Int) ≥ 0)) H2) H
theorem QcS (C p_s p_f K H) (h:QaT C p_s p_f K H):QaZ C p_s p_f K H:=by
 refine Ye Tryz.func138 rfl Tryz.ntmps138 [(0,slv p_s),(1,p_f)] (Zo (Za (GL.nil (Zo (Zm (Zm (Zc h QdK ?_)))))))
 rintro _ H2 ⟨r1,rfl,h⟩
 refine Zi (.bool (decide ((r1:Int) ≥ 0))) (Za (GL.nil ?_))
 exact Y1 I3 ⟨(decide ((r1:Int) ≥ 0)),rfl,h⟩
def QiE (C:Ctx) (p_x:Qi) (v0:Nat×Nat) (K:Bool→Heap→Prop) (H:Heap):Prop:=
 nw (Qi.c p_x) (fun b1 H2=>
 ldV H2 v0 fun x3=>
 ldT H2 Qi.c (b1,0) fun x5=>
 callU Tryz.prog C x3 [.agg (Qi.c x5).toArray] H2 (fun v H8=>∃ (r7:Bool),v=.bool r7∧
 K (!r7) H8)) H
theorem Qh0 (C p_x v0 K H) (h:QiE C p_x v0 K H):QiX C p_x v0 K H:=by
 refine Ye Tryz.func139 rfl Tryz.ntmps139 [(0,.agg (Qi.c p_x).toArray),(1,pv (some v0))] (Zo (GL.box (v:=.agg (Qi.c p_x).toArray) (cs:=Qi.c p_x) h trivial rfl rfl rfl ?_))
 intro b1 H2 h
 refine Za (GL.nil (Zo (Yl h fun x3 h=>?_)))
 obtain ⟨x5,hr6,h⟩:=h
 refine Zv (OV.loadT rfl rfl rfl hr6) (GL.callU (xv:=x3) (vs:=[.agg (Qi.c x5).toArray]) h trivial rfl rfl rfl ?_)
 rintro _ H8 ⟨r7,rfl,h⟩
 refine Zv (OV.not rfl) (Za (GL.nil ?_))
 exact Y1 I3 ⟨(!r7),rfl,h⟩
def Qe6 (C:Ctx) (p_l:Sl) (p_is:Value) (K:Bool→Heap→Prop) (H:Heap):Prop:=
 (Value.cells p_is = #[p_is])∧nw ([p_is]) (fun b1 H2=>
 Qax C p_l (.func (.func 192) (List.toArray []) (List.toArray [pv (some (b1,0))]):Value) (fun r4 H5=>
 K (!r4) H5) H2) H
theorem QhY (C p_l p_is K H) (h:Qe6 C p_l p_is K H):Q6 C p_l p_is K H:=by
 refine Ye Tryz.func140 rfl Tryz.ntmps140 [(0,slv p_l),(1,p_is)] (Zo ?_)
 obtain ⟨u3,h⟩:=h
 refine GL.box (v:=p_is) (cs:=[p_is]) h trivial rfl rfl u3 ?_
 intro b1 H2 h
 refine Za (GL.nil (Zo (Zm (Zv (OV.makeFunc (vs:=[]) (us:=[pv (some (b1,0))]) rfl rfl) (Zc h Qcr ?_)))))
 rintro _ H5 ⟨r4,rfl,h⟩
 refine Zv (OV.not rfl) (Za (GL.nil ?_))
 exact Y1 I3 ⟨(!r4),rfl,h⟩
def Qjm (C:Ctx) (p_f:Qd) (v0:Nat×Nat) (K:Bool→Heap→Prop) (H:Heap):Prop:=
 nw (Qd.c p_f) (fun b1 H2=>
 ldS H2 ((b1,0).1,(b1,0).2+0) fun x3=>
 Qbp C x3 (fun r5 H6=>
 jn (α:=Bool) (fun b7 H20=>
 jn (α:=Bool) (fun b21 H29=>
 K b21 H29)
 (fun J22=>ift b7
 (ldT H20 Qe.c ((b1,0).1,(b1,0).2+1) fun x25=>
 Qd6 C x25 (fun r27 H28=>
 J22 r27 H28) H20)
 (J22 false H20)))
 (fun J8=>ift r5
 (J8 true H6)
 (ldB H6 v0 fun x11=>
 jn (α:=Bool) (fun b13 H19=>
 J8 b13 H19)
 (fun J14=>ift (!x11)
 (ldS H6 ((b1,0).1,(b1,0).2+0) fun x17=>
 J14 (x17 == ([]:Str)) H6)
 (J14 false H6))))) H2) H
theorem QnI (C p_f v0 K H) (h:Qjm C p_f v0 K H):QcM C p_f v0 K H:=by
 refine Ye Tryz.func141 rfl Tryz.ntmps141 [(0,.agg (Qd.c p_f).toArray),(1,pv (some v0))] (Zo (GL.box (v:=.agg (Qd.c p_f).toArray) (cs:=Qd.c p_f) h trivial rfl rfl rfl ?_))
 intro b1 H2 h
 refine Za (GL.nil (Zo (Zf (Yl h fun x3 h=>?_))))
 refine Zc h QbC ?_
 rintro _ H6 ⟨r5,rfl,h⟩
 refine Zm ?_
 obtain ⟨J8,h,hR9⟩:=h
 refine GL.cut (α:=Bool) 8 J8 (fun b7=>[(15,.bool b7),(2,pv (some (b1,0)))]) ?_ ?_
 rcases h.em with ⟨u10,h⟩ | ⟨u10,h⟩
 refine Zk u10 (Zk u10 (Zk u10 (GL.skip ⟨_,rfl,.inr rfl⟩ rfl (GL.skip ⟨_,rfl,.inr rfl⟩ rfl (GL.skip ⟨_,rfl,.inr rfl⟩ rfl (Zk u10 (Zt u10 ?_)))))))
 exact Yj I3 true h
 obtain ⟨x11,hr12,h⟩:=h
 refine Zu u10 (Yo hr12) (Zu u10 (OV.not rfl) (Zu u10 Ym ?_))
 obtain ⟨J14,h,hR15⟩:=h
 refine GL.cut (α:=Bool) 4 J14 (fun b13=>[(14,.bool b13),(2,pv (some (b1,0))),(7,.bool r5)]) ?_ ?_
 rcases h.em with ⟨u16,h⟩ | ⟨u16,h⟩
 refine Zu u16 Yf ?_
 obtain ⟨x17,hr18,h⟩:=h
 refine Zu u16 (Yo hr18) (Zu u16 (OV.sbin (a:=x17) (b:=([]:Str)) (v:=.bool (x17 == ([]:Str))) rfl rfl rfl) (Zu u10 (OV.pickT rfl u16 rfl) ?_))
 exact Yj I3 (x17 == ([]:Str)) h
 refine Zk u16 (Zk u16 (Zk u16 (Zu u10 (OV.pickF rfl u16 rfl) ?_)))
 exact Yj I3 false h
 intro b13 H19 h
 replace h:=hR15 b13 H19 h
 refine Zn u10 ?_
 exact Yj I3 b13 h
 intro b7 H20 h
 replace h:=hR9 b7 H20 h
 refine Zm ?_
 obtain ⟨J22,h,hR23⟩:=h
 refine GL.cut (α:=Bool) 4 J22 (fun b21=>[(20,.bool b21)]) ?_ ?_
 rcases h.em with ⟨u24,h⟩ | ⟨u24,h⟩
 refine Zu u24 Yf ?_
 obtain ⟨x25,hr26,h⟩:=h
 refine Zu u24 (OV.loadT rfl rfl rfl hr26) (GL.call h (Yt u24) rfl Qmt (vs:=[.agg (Qe.c x25).toArray]) rfl ?_)
 rintro _ H28 ⟨r27,rfl,h⟩
 refine Zt u24 ?_
 exact Yj I3 r27 h
 refine Zk u24 (Zk u24 (Zk u24 (Zn u24 ?_)))
 exact Yj I3 false h
 intro b21 H29 h
 replace h:=hR23 b21 H29 h
 refine Za (GL.nil ?_)
 exact Y1 I3 ⟨b21,rfl,h⟩
def QmP (C:Ctx) (p_t:Qe) (K:Bool→Heap→Prop) (H:Heap):Prop:=
 nw (Qe.c p_t) (fun b1 H2=>
 ldL H2 ((b1,0).1,(b1,0).2+1) fun x3=>
 ldS H2 ((b1,0).1,(b1,0).2+0) fun x5=>
 jn (α:=Bool) (fun x8 H9=>
 ift x8
 (K (((Sl.len x3:Int):Int) == 0) H9)
 (ift (x5 == ([116,117,112,108,101]:Str))
 (jn (α:=Bool) (fun b17 H25=>
 K b17 H25)
 (fun J18=>ift ((((Sl.len x3:Int):Int) != 1) && (decide (((Sl.len x3:Int):Int)≤16)))
 (ldL H9 ((b1,0).1,(b1,0).2+1) fun x21=>
 Q7 C x21 (.func (.func 142) (List.toArray []) (List.toArray []):Value) (fun r23 H24=>
 J18 r23 H24) H9)
 (J18 false H9)))
 (ldS H9 ((b1,0).1,(b1,0).2+0) fun x26=>
 QjZ C x26 (fun r28 H29=>
 jn (α:=Bool) (fun b31 H49=>
 K b31 H49)
 (fun J32=>ift (r28 && (((Sl.len x3:Int):Int) == 0))
 (J32 true H29)
 (ldS H29 ((b1,0).1,(b1,0).2+0) fun x35=>
 QfN C x35 (fun r37 H38=>
 jn (α:=Bool) (fun b40 H48=>
 J32 b40 H48)
 (fun J41=>ift (r37 && (decide (((Sl.len x3:Int):Int)≤8)))
 (ldL H38 ((b1,0).1,(b1,0).2+1) fun x44=>
 Q7 C x44 (.func (.func 142) (List.toArray []) (List.toArray []):Value) (fun r46 H47=>
 J41 r46 H47) H38)
 (J41 false H38))) H29))) H9)))
 (fun J7=>ift (x5 == ([98,111,111,108]:Str))
 (J7 (x5 == ([98,111,111,108]:Str)) H2)
 (ift (x5 == ([105,110,116]:Str))
 (J7 (x5 == ([105,110,116]:Str)) H2)
 (ift (x5 == ([98,105,103]:Str))
 (J7 (x5 == ([98,105,103]:Str)) H2)
 (J7 (x5 == ([116,101,120,116]:Str)) H2))))) H
theorem Qql (C p_t K H) (h:QmP C p_t K H):Qd6 C p_t K H:=by
 refine Ye Tryz.func142 rfl Tryz.ntmps142 [(0,.agg (Qe.c p_t).toArray)] (Zo (GL.box (v:=.agg (Qe.c p_t).toArray) (cs:=Qe.c p_t) h trivial rfl rfl rfl ?_))
 intro b1 H2 h
 refine Za (GL.nil (Zo (Zf (Yl h fun x3 h=>?_))))
 refine Zq (Za (GL.nil (GC.seq (Zo (Zf (Yl h fun x5 h=>?_))))))
 refine GL.nil (GC.block ?_)
 obtain ⟨J7,h,hR10⟩:=h
 refine GC.join (α:=Bool) J7 (fun x8=>[(9,.bool x8),(1,pv (some (b1,0))),(3,.int .i64 (Sl.len x3:Int)),(8,sv x5)]) ?_ ?_
 refine Zo (Zv (OV.sbin (a:=x5) (b:=([98,111,111,108]:Str)) (v:=.bool (x5 == ([98,111,111,108]:Str))) rfl rfl rfl) (Za (GL.nil (Yd h (fun u11 h=>?_) fun u11 h=>?_))))
 exact Yk I3 (x5 == ([98,111,111,108]:Str)) h
 refine Zo (Zv (OV.sbin (a:=x5) (b:=([105,110,116]:Str)) (v:=.bool (x5 == ([105,110,116]:Str))) rfl rfl rfl) (Za (GL.nil (Yd h (fun u12 h=>?_) fun u12 h=>?_))))
 exact Yk I3 (x5 == ([105,110,116]:Str)) h
 refine Zo (Zv (OV.sbin (a:=x5) (b:=([98,105,103]:Str)) (v:=.bool (x5 == ([98,105,103]:Str))) rfl rfl rfl) (Za (GL.nil (Yd h (fun u13 h=>?_) fun u13 h=>?_))))
 exact Yk I3 (x5 == ([98,105,103]:Str)) h
 refine GC.region (Zv (OV.sbin (a:=x5) (b:=([116,101,120,116]:Str)) (v:=.bool (x5 == ([116,101,120,116]:Str))) rfl rfl rfl) (Za ?_))
 exact Yj I3 (x5 == ([116,101,120,116]:Str)) h
 intro x8 H9 h
 replace h:=hR10 x8 H9 h
 refine Yd h (fun u14 h=>?_) fun u14 h=>?_
 refine Zo (Zm (Zi (.bool (((Sl.len x3:Int):Int) == 0)) (Za (GL.nil ?_))))
 exact Y1 I3 ⟨(((Sl.len x3:Int):Int) == 0),rfl,h⟩
 refine Zo (Zv (OV.sbin (a:=x5) (b:=([116,117,112,108,101]:Str)) (v:=.bool (x5 == ([116,117,112,108,101]:Str))) rfl rfl rfl) (Za (GL.nil (Yd h (fun u15 h=>?_) fun u15 h=>?_))))
 refine Zo (Zm (Zi (.bool (((Sl.len x3:Int):Int) != 1)) (Zm (GL.cut0 3 [(23,.bool ((((Sl.len x3:Int):Int) != 1) && (decide (((Sl.len x3:Int):Int)≤16)))),(1,pv (some (b1,0)))] ?_ ?_))))
 rcases Zb (((Sl.len x3:Int):Int) != 1) with u16 | u16
 refine Zu u16 Ym (Zu u16 (OV.ibin (v:=.bool (decide (((Sl.len x3:Int):Int)≤16))) rfl rfl rfl) (Zt u16 ?_))
 exact GL.jump0 (fun _ _ h=>h) () rfl ⟨(by rw [u16]; rfl),rfl,trivial⟩
 refine Zk u16 (Zk u16 (Zn u16 ?_))
 exact GL.jump0 (fun _ _ h=>h) () rfl ⟨(by rw [u16]; rfl),rfl,trivial⟩
 refine Zm ?_
 obtain ⟨J18,h,hR19⟩:=h
 refine GL.cut (α:=Bool) 4 J18 (fun b17=>[(28,.bool b17)]) ?_ ?_
 rcases h.em with ⟨u20,h⟩ | ⟨u20,h⟩
 refine Zu u20 Yf ?_
 obtain ⟨x21,v22,h⟩:=h
 refine Zu u20 (Yo v22) (GL.call h (Yt u20) rfl Qgk (vs:=[slv x21,.func (.func 142) (List.toArray []) (List.toArray [])]) rfl ?_)
 rintro _ H24 ⟨r23,rfl,h⟩
 refine Zt u20 ?_
 exact Yj I3 r23 h
 refine Zk u20 (Zk u20 (Zk u20 (Zn u20 ?_)))
 exact Yj I3 false h
 intro b17 H25 h
 replace h:=hR19 b17 H25 h
 refine Za (GL.nil ?_)
 exact Y1 I3 ⟨b17,rfl,h⟩
 refine GC.skip_to (fun _ _ h=>h) (Zo (Zf ?_))
 refine Yl h fun x26 h=>?_
 refine Zc h Qms ?_
 rintro _ H29 ⟨r28,rfl,h⟩
 refine Zm (GL.cut0 3 [(35,.bool (r28 && (((Sl.len x3:Int):Int) == 0))),(1,pv (some (b1,0))),(3,.int .i64 (Sl.len x3:Int))] ?_ ?_)
 rcases Bool.eq_false_or_eq_true r28 with u30 | u30
 refine Zu u30 Ym (Zu u30 (OV.ibin (v:=.bool (((Sl.len x3:Int):Int) == 0)) rfl rfl rfl) (Zt u30 ?_))
 exact GL.jump0 (fun _ _ h=>h) () rfl ⟨(by rw [u30]; rfl),rfl,rfl,trivial⟩
 refine Zk u30 (Zk u30 (Zn u30 ?_))
 exact GL.jump0 (fun _ _ h=>h) () rfl ⟨(by rw [u30]; rfl),rfl,rfl,trivial⟩
 refine Zm ?_
 obtain ⟨J32,h,hR33⟩:=h
 refine GL.cut (α:=Bool) 13 J32 (fun b31=>[(49,.bool b31)]) ?_ ?_
 rcases h.em with ⟨u34,h⟩ | ⟨u34,h⟩
 refine Zk u34 (Zk u34 (Zk u34 (Zk u34 (GL.skip ⟨_,rfl,.inr rfl⟩ rfl (GL.skip ⟨_,rfl,.inr rfl⟩ rfl (Zk u34 (Zk u34 (GL.skip ⟨_,rfl,.inr rfl⟩ rfl (GL.skip ⟨_,rfl,.inr rfl⟩ rfl (GL.skip ⟨_,rfl,.inr rfl⟩ rfl (Zk u34 (Zt u34 ?_))))))))))))
 exact Yj I3 true h
 refine Zu u34 Yf ?_
 obtain ⟨x35,v36,h⟩:=h
 refine Zu u34 (Yo v36) (GL.call h (Yt u34) rfl Qhi (vs:=[sv x35]) rfl ?_)
 rintro _ H38 ⟨r37,rfl,h⟩
 refine Zu u34 Ym (GL.cut0 3 [(43,.bool (r37 && (decide (((Sl.len x3:Int):Int)≤8)))),(1,pv (some (b1,0))),(36,.bool (r28 && (((Sl.len x3:Int):Int) == 0)))] ?_ ?_)
 rcases Bool.eq_false_or_eq_true r37 with u39 | u39
 refine Zu u39 Ym (Zu u39 (OV.ibin (v:=.bool (decide (((Sl.len x3:Int):Int)≤8))) rfl rfl rfl) (Zu u34 (OV.pickT rfl u39 rfl) ?_))
 exact GL.jump0 (fun _ _ h=>h) () rfl ⟨(by rw [u39]; rfl),rfl,rfl,trivial⟩
 refine Zk u39 (Zk u39 (Zu u34 (OV.pickF rfl u39 rfl) ?_))
 exact GL.jump0 (fun _ _ h=>h) () rfl ⟨(by rw [u39]; rfl),rfl,rfl,trivial⟩
 refine Zu u34 Ym ?_
 obtain ⟨J41,h,hR42⟩:=h
 refine GL.cut (α:=Bool) 4 J41 (fun b40=>[(48,.bool b40),(36,.bool (r28 && (((Sl.len x3:Int):Int) == 0)))]) ?_ ?_
 rcases h.em with ⟨u43,h⟩ | ⟨u43,h⟩
 refine Zu u43 Yf ?_
 obtain ⟨x44,v45,h⟩:=h
 refine Zu u43 (Yo v45) (GL.call h (Yt u43) rfl Qgk (vs:=[slv x44,.func (.func 142) (List.toArray []) (List.toArray [])]) rfl ?_)
 rintro _ H47 ⟨r46,rfl,h⟩
 refine Zu u34 (OV.pickT rfl u43 rfl) ?_
 exact Yj I3 r46 h
 refine Zk u43 (Zk u43 (Zk u43 (Zu u34 (OV.pickF rfl u43 rfl) ?_)))
 exact Yj I3 false h
 intro b40 H48 h
 replace h:=hR42 b40 H48 h
 refine Zn u34 ?_
 exact Yj I3 b40 h
 intro b31 H49 h
 replace h:=hR33 b31 H49 h
 refine Za (GL.nil ?_)
 exact Y1 I3 ⟨b31,rfl,h⟩
def Qbv (C:Ctx) (p_s:Sl) (p_f:Value) (K:Bool→Heap→Prop) (H:Heap):Prop:=
 Qb2 C p_s p_f (fun r1 H2=>
 K (decide ((r1:Int) ≥ 0)) H2) H
theorem QdU (C p_s p_f K H) (h:Qbv C p_s p_f K H):QbA C p_s p_f K H:=by
 refine Ye Tryz.func143 rfl Tryz.ntmps143 [(0,slv p_s),(1,p_f)] (Zo (Za (GL.nil (Zo (Zm (Zm (Zc h QeG ?_)))))))
 rintro _ H2 ⟨r1,rfl,h⟩
 refine Zi (.bool (decide ((r1:Int) ≥ 0))) (Za (GL.nil ?_))
 exact Y1 I3 ⟨(decide ((r1:Int) ≥ 0)),rfl,h⟩
def QjK (C:Ctx) (p_x:Qk) (v0:Nat×Nat) (K:Bool→Heap→Prop) (H:Heap):Prop:=
 nw (Qk.c p_x) (fun b1 H2=>
 ldV H2 v0 fun x3=>
 ldT H2 Qk.c (b1,0) fun x5=>
 callU Tryz.prog C x3 [.agg (Qk.c x5).toArray] H2 (fun v H8=>∃ (r7:Bool),v=.bool r7∧
 K (!r7) H8)) H
theorem Qju (C p_x v0 K H) (h:QjK C p_x v0 K H):QjW C p_x v0 K H:=by
 refine Ye Tryz.func144 rfl Tryz.ntmps144 [(0,.agg (Qk.c p_x).toArray),(1,pv (some v0))] (Zo (GL.box (v:=.agg (Qk.c p_x).toArray) (cs:=Qk.c p_x) h trivial rfl rfl rfl ?_))
 intro b1 H2 h
 refine Za (GL.nil (Zo (Yl h fun x3 h=>?_)))
 obtain ⟨x5,hr6,h⟩:=h
 refine Zv (OV.loadT rfl rfl rfl hr6) (GL.callU (xv:=x3) (vs:=[.agg (Qk.c x5).toArray]) h trivial rfl rfl rfl ?_)
 rintro _ H8 ⟨r7,rfl,h⟩
 refine Zv (OV.not rfl) (Za (GL.nil ?_))
 exact Y1 I3 ⟨(!r7),rfl,h⟩
def Qnx (C:Ctx) (p_s:Str) (K:Bool→Heap→Prop) (H:Heap):Prop:=
 QgA C p_s [46] (fun r1 r2 r3 H4=>
 Qbp C r1 (fun r5 H6=>
 jn (α:=Bool) (fun b7 H18=>
 K b7 H18)
 (fun J8=>ift r5
 (jn (α:=Bool) (fun b11 H17=>
 J8 b11 H17)
 (fun J12=>ift (!r3)
 (J12 true H6)
 (Qbp C r2 (fun r15 H16=>
 J12 r15 H16) H6)))
 (J8 false H6))) H4) H
theorem QqR (C p_s K H) (h:Qnx C p_s K H):QfN C p_s K H:=by
 refine Ye Tryz.func145 rfl Tryz.ntmps145 [(0,sv p_s)] (Zo (Za (GL.nil (Zo (Zm (Zc h Qk4 ?_))))))
 rintro _ H4 ⟨r1,r2,r3,rfl,h⟩
 refine Zm (Yv (sv r1) rfl rfl (Yv (sv r2) rfl rfl (Yv (.bool r3) rfl rfl (Za (Za (Za (GL.nil (Zo (Zm (Zc h QbC ?_))))))))))
 rintro _ H6 ⟨r5,rfl,h⟩
 refine Zm ?_
 obtain ⟨J8,h,hR9⟩:=h
 refine GL.cut (α:=Bool) 7 J8 (fun b7=>[(21,.bool b7)]) ?_ ?_
 rcases h.em with ⟨u10,h⟩ | ⟨u10,h⟩
 refine Zu u10 Ym (Zu u10 (OV.not rfl) (Zu u10 Ym ?_))
 obtain ⟨J12,h,hR13⟩:=h
 refine GL.cut (α:=Bool) 3 J12 (fun b11=>[(20,.bool b11),(14,.bool r5)]) ?_ ?_
 rcases h.em with ⟨u14,h⟩ | ⟨u14,h⟩
 refine Zk u14 (Zk u14 (Zu u10 (OV.pickT rfl u14 rfl) ?_))
 exact Yj I3 true h
 refine Zu u14 Ym (GL.call h (Yt u14) rfl QbC (vs:=[sv r2]) rfl ?_)
 rintro _ H16 ⟨r15,rfl,h⟩
 refine Zu u10 (OV.pickF rfl u14 rfl) ?_
 exact Yj I3 r15 h
 intro b11 H17 h
 replace h:=hR13 b11 H17 h
 refine Zt u10 ?_
 exact Yj I3 b11 h
 refine Zk u10 (Zk u10 (Zk u10 (GL.skip ⟨_,rfl,.inr rfl⟩ rfl (GL.skip ⟨_,rfl,.inr rfl⟩ rfl (Zk u10 (Zn u10 ?_))))))
 exact Yj I3 false h
 intro b7 H18 h
 replace h:=hR9 b7 H18 h
 refine Za (GL.nil ?_)
 exact Y1 I3 ⟨b7,rfl,h⟩
def Qgm (C:Ctx) (p_l:Sl) (p_is:Value) (K:Bool→Heap→Prop) (H:Heap):Prop:=
 (Value.cells p_is = #[p_is])∧nw ([p_is]) (fun b1 H2=>
 Qbz C p_l (.func (.func 197) (List.toArray []) (List.toArray [pv (some (b1,0))]):Value) (fun r4 H5=>
 K (!r4) H5) H2) H
theorem QkD (C p_l p_is K H) (h:Qgm C p_l p_is K H):QO C p_l p_is K H:=by
 refine Ye Tryz.func146 rfl Tryz.ntmps146 [(0,slv p_l),(1,p_is)] (Zo ?_)
 obtain ⟨u3,h⟩:=h
 refine GL.box (v:=p_is) (cs:=[p_is]) h trivial rfl rfl u3 ?_
 intro b1 H2 h
 refine Za (GL.nil (Zo (Zm (Zv (OV.makeFunc (vs:=[]) (us:=[pv (some (b1,0))]) rfl rfl) (Zc h QdX ?_)))))
 rintro _ H5 ⟨r4,rfl,h⟩
 refine Zv (OV.not rfl) (Za (GL.nil ?_))
 exact Y1 I3 ⟨(!r4),rfl,h⟩
def QlB (C:Ctx) (p_s:Str) (K:Bool→Heap→Prop) (H:Heap):Prop:=
 K (((((p_s == ([]:Str)) || (p_s == ([99,111,117,110,116]:Str))) || (p_s == ([115,117,109]:Str))) || (p_s == ([109,105,110]:Str))) || (p_s == ([109,97,120]:Str))) H
theorem Qpl (C p_s K H) (h:QlB C p_s K H):Qma C p_s K H:=by
 refine Ye Tryz.func147 rfl Tryz.ntmps147 [(0,sv p_s)] (Zo (Za (GL.nil (Zo (Zm (Zv (OV.sbin (a:=p_s) (b:=([]:Str)) (v:=.bool (p_s == ([]:Str))) rfl rfl rfl) (Zm (GL.cut0 3 [(8,.bool ((p_s == ([]:Str)) || (p_s == ([99,111,117,110,116]:Str)))),(0,sv p_s)] ?_ ?_))))))))
 rcases Zb (p_s == ([]:Str)) with u1 | u1
 refine Zk u1 (Zk u1 (Zt u1 ?_))
 exact GL.jump0 (fun _ _ h=>h) () rfl ⟨(by rw [u1]; rfl),rfl,trivial⟩
 refine Zu u1 Ym (Zu u1 (OV.sbin (a:=p_s) (b:=([99,111,117,110,116]:Str)) (v:=.bool (p_s == ([99,111,117,110,116]:Str))) rfl rfl rfl) (Zn u1 ?_))
 exact GL.jump0 (fun _ _ h=>h) () rfl ⟨(by rw [u1]; rfl),rfl,trivial⟩
 refine Zm (GL.cut0 3 [(12,.bool (((p_s == ([]:Str)) || (p_s == ([99,111,117,110,116]:Str))) || (p_s == ([115,117,109]:Str)))),(0,sv p_s)] ?_ ?_)
 rcases Zb ((p_s == ([]:Str)) || (p_s == ([99,111,117,110,116]:Str))) with u2 | u2
 refine Zk u2 (Zk u2 (Zt u2 ?_))
 exact GL.jump0 (fun _ _ h=>h) () rfl ⟨(by rw [u2]; rfl),rfl,trivial⟩
 refine Zu u2 Ym (Zu u2 (OV.sbin (a:=p_s) (b:=([115,117,109]:Str)) (v:=.bool (p_s == ([115,117,109]:Str))) rfl rfl rfl) (Zn u2 ?_))
 exact GL.jump0 (fun _ _ h=>h) () rfl ⟨(by rw [u2]; rfl),rfl,trivial⟩
 refine Zm (GL.cut0 3 [(16,.bool ((((p_s == ([]:Str)) || (p_s == ([99,111,117,110,116]:Str))) || (p_s == ([115,117,109]:Str))) || (p_s == ([109,105,110]:Str)))),(0,sv p_s)] ?_ ?_)
 rcases Zb (((p_s == ([]:Str)) || (p_s == ([99,111,117,110,116]:Str))) || (p_s == ([115,117,109]:Str))) with u3 | u3
 refine Zk u3 (Zk u3 (Zt u3 ?_))
 exact GL.jump0 (fun _ _ h=>h) () rfl ⟨(by rw [u3]; rfl),rfl,trivial⟩
 refine Zu u3 Ym (Zu u3 (OV.sbin (a:=p_s) (b:=([109,105,110]:Str)) (v:=.bool (p_s == ([109,105,110]:Str))) rfl rfl rfl) (Zn u3 ?_))
 exact GL.jump0 (fun _ _ h=>h) () rfl ⟨(by rw [u3]; rfl),rfl,trivial⟩
 refine Zm (GL.cut0 3 [(20,.bool (((((p_s == ([]:Str)) || (p_s == ([99,111,117,110,116]:Str))) || (p_s == ([115,117,109]:Str))) || (p_s == ([109,105,110]:Str))) || (p_s == ([109,97,120]:Str))))] ?_ ?_)
 rcases Zb ((((p_s == ([]:Str)) || (p_s == ([99,111,117,110,116]:Str))) || (p_s == ([115,117,109]:Str))) || (p_s == ([109,105,110]:Str))) with u4 | u4
 refine Zk u4 (Zk u4 (Zt u4 ?_))
 exact GL.jump0 (fun _ _ h=>h) () rfl ⟨(by rw [u4]; rfl),trivial⟩
 refine Zu u4 Ym (Zu u4 (OV.sbin (a:=p_s) (b:=([109,97,120]:Str)) (v:=.bool (p_s == ([109,97,120]:Str))) rfl rfl rfl) (Zn u4 ?_))
 exact GL.jump0 (fun _ _ h=>h) () rfl ⟨(by rw [u4]; rfl),trivial⟩
 refine Za (GL.nil ?_)
 exact Y1 I3 ⟨(((((p_s == ([]:Str)) || (p_s == ([99,111,117,110,116]:Str))) || (p_s == ([115,117,109]:Str))) || (p_s == ([109,105,110]:Str))) || (p_s == ([109,97,120]:Str))),rfl,h⟩
def Qbf (C:Ctx) (p_s:Sl) (p_f:Value) (K:Bool→Heap→Prop) (H:Heap):Prop:=
 QbF C p_s p_f (fun r1 H2=>
 K (decide ((r1:Int) ≥ 0)) H2) H
theorem Qdj (C p_s p_f K H) (h:Qbf C p_s p_f K H):Qbi C p_s p_f K H:=by
 refine Ye Tryz.func148 rfl Tryz.ntmps148 [(0,slv p_s),(1,p_f)] (Zo (Za (GL.nil (Zo (Zm (Zm (Zc h Qd7 ?_)))))))
 rintro _ H2 ⟨r1,rfl,h⟩
 refine Zi (.bool (decide ((r1:Int) ≥ 0))) (Za (GL.nil ?_))
 exact Y1 I3 ⟨(decide ((r1:Int) ≥ 0)),rfl,h⟩
def Qjd (C:Ctx) (p_x:Ql) (v0:Nat×Nat) (K:Bool→Heap→Prop) (H:Heap):Prop:=
 nw (Ql.c p_x) (fun b1 H2=>
 ldV H2 v0 fun x3=>
 ldT H2 Ql.c (b1,0) fun x5=>
 callU Tryz.prog C x3 [.agg (Ql.c x5).toArray] H2 (fun v H8=>∃ (r7:Bool),v=.bool r7∧
 K (!r7) H8)) H
theorem QiM (C p_x v0 K H) (h:Qjd C p_x v0 K H):QjA C p_x v0 K H:=by
 refine Ye Tryz.func149 rfl Tryz.ntmps149 [(0,.agg (Ql.c p_x).toArray),(1,pv (some v0))] (Zo (GL.box (v:=.agg (Ql.c p_x).toArray) (cs:=Ql.c p_x) h trivial rfl rfl rfl ?_))
 intro b1 H2 h
 refine Za (GL.nil (Zo (Yl h fun x3 h=>?_)))
 obtain ⟨x5,hr6,h⟩:=h
 refine Zv (OV.loadT rfl rfl rfl hr6) (GL.callU (xv:=x3) (vs:=[.agg (Ql.c x5).toArray]) h trivial rfl rfl rfl ?_)
 rintro _ H8 ⟨r7,rfl,h⟩
 refine Zv (OV.not rfl) (Za (GL.nil ?_))
 exact Y1 I3 ⟨(!r7),rfl,h⟩
def QaD (C:Ctx) (p_s:Sl) (p_f:Value) (K:Bool→Heap→Prop) (H:Heap):Prop:=
 Qbd C p_s p_f (fun r1 H2=>
 K (decide ((r1:Int) ≥ 0)) H2) H
theorem QcC (C p_s p_f K H) (h:QaD C p_s p_f K H):QaM C p_s p_f K H:=by
 refine Ye Tryz.func150 rfl Tryz.ntmps150 [(0,slv p_s),(1,p_f)] (Zo (Za (GL.nil (Zo (Zm (Zm (Zc h Qdh ?_)))))))
 rintro _ H2 ⟨r1,rfl,h⟩
 refine Zi (.bool (decide ((r1:Int) ≥ 0))) (Za (GL.nil ?_))
 exact Y1 I3 ⟨(decide ((r1:Int) ≥ 0)),rfl,h⟩
def QhV (C:Ctx) (p_x:Qc) (v0:Nat×Nat) (K:Bool→Heap→Prop) (H:Heap):Prop:=
 nw (Qc.c p_x) (fun b1 H2=>
 ldV H2 v0 fun x3=>
 ldT H2 Qc.c (b1,0) fun x5=>
 callU Tryz.prog C x3 [.agg (Qc.c x5).toArray] H2 (fun v H8=>∃ (r7:Bool),v=.bool r7∧
 K (!r7) H8)) H
theorem Qhx (C p_x v0 K H) (h:QhV C p_x v0 K H):Qia C p_x v0 K H:=by
 refine Ye Tryz.func151 rfl Tryz.ntmps151 [(0,.agg (Qc.c p_x).toArray),(1,pv (some v0))] (Zo (GL.box (v:=.agg (Qc.c p_x).toArray) (cs:=Qc.c p_x) h trivial rfl rfl rfl ?_))
 intro b1 H2 h
 refine Za (GL.nil (Zo (Yl h fun x3 h=>?_)))
 obtain ⟨x5,hr6,h⟩:=h
 refine Zv (OV.loadT rfl rfl rfl hr6) (GL.callU (xv:=x3) (vs:=[.agg (Qc.c x5).toArray]) h trivial rfl rfl rfl ?_)
 rintro _ H8 ⟨r7,rfl,h⟩
 refine Zv (OV.not rfl) (Za (GL.nil ?_))
 exact Y1 I3 ⟨(!r7),rfl,h⟩
def Qkv (C:Ctx) (p_e:Qa) (K:Bool→Heap→Prop) (H:Heap):Prop:=
 nw (Qa.c p_e) (fun b1 H2=>
 ldT H2 Qa.c (b1,0) fun x3=>
 Qdd C x3 true (fun r5 H6=>
 K r5 H6) H2) H
theorem Qoe (C p_e K H) (h:Qkv C p_e K H):QdA C p_e K H:=by
 refine Ye Tryz.func152 rfl Tryz.ntmps152 [(0,.agg (Qa.c p_e).toArray)] (Zo (GL.box (v:=.agg (Qa.c p_e).toArray) (cs:=Qa.c p_e) h trivial rfl rfl rfl ?_))
 intro b1 H2 h
 refine Za (GL.nil (Zo ?_))
 obtain ⟨x3,v4,h⟩:=h
 refine Zv (OV.loadT rfl rfl rfl v4) (Zc h Qkb ?_)
 rintro _ H6 ⟨r5,rfl,h⟩
 refine Za (GL.nil ?_)
 exact Y1 I3 ⟨r5,rfl,h⟩
def Qjq (C:Ctx) (p_s:Str) (K:Bool→Heap→Prop) (H:Heap):Prop:=
 jn (α:=Bool) (fun b1 H8=>
 jn (α:=Bool) (fun b9 H16=>
 jn (α:=Bool) (fun b17 H23=>
 K b17 H23)
 (fun J18=>ift b9
 (QiY C p_s (fun r21 H22=>
 J18 r21 H22) H16)
 (J18 false H16)))
 (fun J10=>ift b1
 (ixs p_s 0 fun c13=>
 J10 (decide (((c13.toNat:Int):Int)≤90)) H8)
 (J10 false H8)))
 (fun J2=>ift (!(p_s == ([]:Str)))
 (ixs p_s 0 fun c5=>
 J2 (decide (((c5.toNat:Int):Int) ≥ 65)) H)
 (J2 false H))
theorem QnM (C p_s K H) (h:Qjq C p_s K H):Qfn C p_s K H:=by
 refine Ye Tryz.func153 rfl Tryz.ntmps153 [(0,sv p_s)] (Zo (Za (GL.nil (Zo (Zm (Zv (OV.sbin (a:=p_s) (b:=([]:Str)) (v:=.bool (!(p_s == ([]:Str)))) rfl rfl rfl) (Zm ?_)))))))
 obtain ⟨J2,h,hR3⟩:=h
 refine GL.cut (α:=Bool) 4 J2 (fun b1=>[(9,.bool b1),(0,sv p_s)]) ?_ ?_
 rcases h.em with ⟨u4,h⟩ | ⟨u4,h⟩
 refine Zu u4 Ym ?_
 obtain ⟨c5,ha6,hb7,h⟩:=h
 refine Zu u4 (OV.indexStr rfl rfl rfl ha6 hb7) (Zu u4 (OV.ibin (v:=.bool (decide (((c5.toNat:Int):Int) ≥ 65))) rfl rfl rfl) (Zt u4 ?_))
 exact Yj I3 (decide (((c5.toNat:Int):Int) ≥ 65)) h
 refine Zk u4 (Zk u4 (Zk u4 (Zn u4 ?_)))
 exact Yj I3 false h
 intro b1 H8 h
 replace h:=hR3 b1 H8 h
 refine Zm ?_
 obtain ⟨J10,h,hR11⟩:=h
 refine GL.cut (α:=Bool) 4 J10 (fun b9=>[(14,.bool b9),(0,sv p_s)]) ?_ ?_
 rcases h.em with ⟨u12,h⟩ | ⟨u12,h⟩
 refine Zu u12 Ym ?_
 obtain ⟨c13,ha14,hb15,h⟩:=h
 refine Zu u12 (OV.indexStr rfl rfl rfl ha14 hb15) (Zu u12 (OV.ibin (v:=.bool (decide (((c13.toNat:Int):Int)≤90))) rfl rfl rfl) (Zt u12 ?_))
 exact Yj I3 (decide (((c13.toNat:Int):Int)≤90)) h
 refine Zk u12 (Zk u12 (Zk u12 (Zn u12 ?_)))
 exact Yj I3 false h
 intro b9 H16 h
 replace h:=hR11 b9 H16 h
 refine Zm ?_
 obtain ⟨J18,h,hR19⟩:=h
 refine GL.cut (α:=Bool) 3 J18 (fun b17=>[(18,.bool b17)]) ?_ ?_
 rcases h.em with ⟨u20,h⟩ | ⟨u20,h⟩
 refine Zu u20 Ym (GL.call h (Yt u20) rfl Qnn (vs:=[sv p_s]) rfl ?_)
 rintro _ H22 ⟨r21,rfl,h⟩
 refine Zt u20 ?_
 exact Yj I3 r21 h
 refine Zk u20 (Zk u20 (Zn u20 ?_))
 exact Yj I3 false h
 intro b17 H23 h
 replace h:=hR19 b17 H23 h
 refine Za (GL.nil ?_)
 exact Y1 I3 ⟨b17,rfl,h⟩
def Qho (C:Ctx) (p_t:Qe) (K:Int→Heap→Prop) (H:Heap):Prop:=
 nw (Qe.c p_t) (fun b1 H2=>
 lp (α:=Int×Int) (0,0) H2 (fun x3 J4 H5=>
 ldL H5 ((b1,0).1,(b1,0).2+1) fun x6=>
 ift (decide ((x3.2:Int) < (Sl.len x6:Int)))
 (ldL H5 ((b1,0).1,(b1,0).2+1) fun x9=>
 ixa x9 x3.2 fun p11=>
 ldT H5 Qe.c (p11.1,p11.2+(x3.2:Int).toNat*2) fun x16=>
 Qap C x16 (fun r18 H19=>
 J4 ((if r18 > x3.1 then r18 else x3.1:Int),(w .i64 (x3.2+1))) H19) H5)
 (K (w .i64 (x3.1+1)) H5))) H
theorem Ql3 (C p_t K H) (h:Qho C p_t K H):Qap C p_t K H:=by
 refine Ye Tryz.func154 rfl Tryz.ntmps154 [(0,.agg (Qe.c p_t).toArray)] (Zo (GL.box (v:=.agg (Qe.c p_t).toArray) (cs:=Qe.c p_t) h trivial rfl rfl rfl ?_))
 intro b1 H2 h
 refine Za (GL.nil (Zo (Za (GL.nil (GC.seq (Zo (Za (GL.nil (GC.block (Yp h (fun x3=>[(3,.int .i64 x3.1),(4,.int .i64 x3.2),(1,pv (some (b1,0)))]) ?_))))))))))
 intro x3 H5 J4 h
 refine GC.seq (Zo (Zm (Zf (Yl h fun x6 h=>?_))))
 refine Zq (Zi (.bool (decide ((x3.2:Int) < (Sl.len x6:Int)))) (GL.nil (Yd h (fun u8 h=>?_) fun u8 h=>?_)))
 refine GC.skip (GC.seq (GC.block (GC.region (Zm (Zf (Yl h fun x9 h=>?_))))))
 refine Zm (Yx h fun p11 h=>?_)
 obtain ⟨x16,v17,h⟩:=h
 refine Zv (OV.loadT rfl rfl rfl v17) (Zc h Qfs ?_)
 rintro _ H19 ⟨r18,rfl,h⟩
 refine Zv (OV.maxI rfl rfl) (Za (GL.nil_to (fun _ _ h=>h) (GC.region (Zm (Zi (.int .i64 (w .i64 (x3.2+1))) (Za ?_))))))
 exact Yj I3 ((if r18 > x3.1 then r18 else x3.1:Int),(w .i64 (x3.2+1))) h
 refine GC.exit_to (fun _ _ h=>h) (Zo (Zm (Zi (.int .i64 (w .i64 (x3.1+1))) (Za (GL.nil ?_)))))
 exact Y1 I3 ⟨(w .i64 (x3.1+1)),rfl,h⟩
def QiA (C:Ctx) (p_l:Sl) (K:Int→Heap→Prop) (H:Heap):Prop:=
 lp (α:=Int×Int) (0,0) H (fun x1 J2 H3=>
 ift (decide ((x1.2:Int) < (Sl.len p_l:Int)))
 (lp (α:=Int×Int) (x1.1,0) H3 (fun x5 J6 H7=>
 ixa p_l x1.2 fun p8=>
 ldL H7 ((p8.1,p8.2+(x1.2:Int).toNat*5).1,(p8.1,p8.2+(x1.2:Int).toNat*5).2+4) fun x13=>
 ift (decide ((x5.2:Int) < (Sl.len x13:Int)))
 (ixa p_l x1.2 fun p16=>
 ldL H7 ((p16.1,p16.2+(x1.2:Int).toNat*5).1,(p16.1,p16.2+(x1.2:Int).toNat*5).2+4) fun x21=>
 ixa x21 x5.2 fun p23=>
 ldT H7 Qa.c (p23.1,p23.2+(x5.2:Int).toNat*9) fun x28=>
 QbV C x28 (fun r30 H31=>
 J6 ((if r30 > x5.1 then r30 else x5.1:Int),(w .i64 (x5.2+1))) H31) H7)
 (J2 (x5.1,(w .i64 (x1.2+1))) H7)))
 (K x1.1 H3))
theorem QmZ (C p_l K H) (h:QiA C p_l K H):Qbb C p_l K H:=by
 refine Ye Tryz.func155 rfl Tryz.ntmps155 [(0,slv p_l)] (Zo (Za (GL.nil (Zo (Za (GL.nil (GC.seq (Zo (Za (GL.nil (GC.block (Yp h (fun x1=>[(3,.int .i64 x1.1),(4,.int .i64 x1.2),(0,slv p_l)]) ?_))))))))))))
 intro x1 H3 J2 h
 refine GC.seq (Zo (Zm (Zm (Zq (Zi (.bool (decide ((x1.2:Int) < (Sl.len p_l:Int)))) (GL.nil (Yd h (fun u4 h=>?_) fun u4 h=>?_)))))))
 refine GC.skip (GC.seq (GC.block (Zo (Za (GL.nil (GC.block (Yp h (fun x5=>[(3,.int .i64 x5.1),(5,.int .i64 x5.2),(0,slv p_l),(4,.int .i64 x1.2)]) ?_)))))))
 intro x5 H7 J6 h
 refine GC.seq (Zo (Zm (Zm (Zm (Yx h fun p8 h=>?_)))))
 refine Zf (Yl h fun x13 h=>?_)
 refine Zq (Zi (.bool (decide ((x5.2:Int) < (Sl.len x13:Int)))) (GL.nil (Yd h (fun u15 h=>?_) fun u15 h=>?_)))
 refine GC.skip (GC.seq (GC.block (GC.region (Zm (Zm (Zm (Yx h fun p16 h=>?_)))))))
 refine Zf (Yl h fun x21 h=>?_)
 refine Zm (Yx h fun p23 h=>?_)
 obtain ⟨x28,v29,h⟩:=h
 refine Zv (OV.loadT rfl rfl rfl v29) (Zc h QhK ?_)
 rintro _ H31 ⟨r30,rfl,h⟩
 refine Zv (OV.maxI rfl rfl) (Za (GL.nil_to (fun _ _ h=>h) (GC.region (Zm (Zi (.int .i64 (w .i64 (x5.2+1))) (Za ?_))))))
 exact Yj I3 ((if r30 > x5.1 then r30 else x5.1:Int),(w .i64 (x5.2+1))) h
 refine GC.exit_to (fun _ _ h=>h) (GC.region (Zm (Zi (.int .i64 (w .i64 (x1.2+1))) (Za ?_))))
 exact Yj I3 (x5.1,(w .i64 (x1.2+1))) h
 refine GC.exit_to (fun _ _ h=>h) (Zo (Zm (Za (GL.nil ?_))))
 exact Y1 I3 ⟨x1.1,rfl,h⟩
def Qli (C:Ctx) (p_e:Qa) (K:Int→Heap→Prop) (H:Heap):Prop:=
 nw (Qa.c p_e) (fun b1 H2=>
 lp (α:=Int×Int) (0,0) H2 (fun x3 J4 H5=>
 ldL H5 ((b1,0).1,(b1,0).2+8) fun x6=>
 ift (decide ((x3.2:Int) < (Sl.len x6:Int)))
 (ldL H5 ((b1,0).1,(b1,0).2+8) fun x9=>
 ixa x9 x3.2 fun p11=>
 ldT H5 Qa.c (p11.1,p11.2+(x3.2:Int).toNat*9) fun x16=>
 QbV C x16 (fun r18 H19=>
 J4 ((if r18 > x3.1 then r18 else x3.1:Int),(w .i64 (x3.2+1))) H19) H5)
 (K (w .i64 (x3.1+1)) H5))) H
theorem Qo2 (C p_e K H) (h:Qli C p_e K H):QbV C p_e K H:=by
 refine Ye Tryz.func156 rfl Tryz.ntmps156 [(0,.agg (Qa.c p_e).toArray)] (Zo (GL.box (v:=.agg (Qa.c p_e).toArray) (cs:=Qa.c p_e) h trivial rfl rfl rfl ?_))
 intro b1 H2 h
 refine Za (GL.nil (Zo (Za (GL.nil (GC.seq (Zo (Za (GL.nil (GC.block (Yp h (fun x3=>[(3,.int .i64 x3.1),(4,.int .i64 x3.2),(1,pv (some (b1,0)))]) ?_))))))))))
 intro x3 H5 J4 h
 refine GC.seq (Zo (Zm (Zf (Yl h fun x6 h=>?_))))
 refine Zq (Zi (.bool (decide ((x3.2:Int) < (Sl.len x6:Int)))) (GL.nil (Yd h (fun u8 h=>?_) fun u8 h=>?_)))
 refine GC.skip (GC.seq (GC.block (GC.region (Zm (Zf (Yl h fun x9 h=>?_))))))
 refine Zm (Yx h fun p11 h=>?_)
 obtain ⟨x16,v17,h⟩:=h
 refine Zv (OV.loadT rfl rfl rfl v17) (Zc h QhK ?_)
 rintro _ H19 ⟨r18,rfl,h⟩
 refine Zv (OV.maxI rfl rfl) (Za (GL.nil_to (fun _ _ h=>h) (GC.region (Zm (Zi (.int .i64 (w .i64 (x3.2+1))) (Za ?_))))))
 exact Yj I3 ((if r18 > x3.1 then r18 else x3.1:Int),(w .i64 (x3.2+1))) h
 refine GC.exit_to (fun _ _ h=>h) (Zo (Zm (Zi (.int .i64 (w .i64 (x3.1+1))) (Za (GL.nil ?_)))))
 exact Y1 I3 ⟨(w .i64 (x3.1+1)),rfl,h⟩
def Qmx (C:Ctx) (p_s:Str) (K:Bool→Heap→Prop) (H:Heap):Prop:=
 jn (α:=Bool) (fun b2 H11=>
 ift b2
 (K false H11)
 (lp (α:=Int) 0 H11 (fun x13 J14 H15=>
 ift (decide ((x13:Int) < (List.length p_s:Int)))
 (ixs p_s x13 fun c17=>
 QfS C (c17.toNat:Int) (fun r20 H21=>
 ift ((((!r20) && (!((decide (((c17.toNat:Int):Int) ≥ 65)) && (decide (((c17.toNat:Int):Int)≤90))))) && (!((decide (((c17.toNat:Int):Int) ≥ 48)) && (decide (((c17.toNat:Int):Int)≤57))))) && (((c17.toNat:Int):Int) != 95))
 (K false H21)
 (J14 (w .i64 (x13+1)) H21)) H15)
 (K true H15))))
 (fun J3=>ift ((p_s == ([]:Str)) || (decide (((List.length p_s:Int):Int) > 32)))
 (J3 true H)
 (ixs p_s 0 fun c6=>
 QfS C (c6.toNat:Int) (fun r9 H10=>
 J3 (!r9) H10) H))
theorem Qp3 (C p_s K H) (h:Qmx C p_s K H):Qd1 C p_s K H:=by
 refine Ye Tryz.func157 rfl Tryz.ntmps157 [(0,sv p_s)] (Zo (Za (GL.nil (GC.seq (Zo (Zm (Zv (OV.sbin (a:=p_s) (b:=([]:Str)) (v:=.bool (p_s == ([]:Str))) rfl rfl rfl) (Zm (GL.cut0 4 [(11,.bool ((p_s == ([]:Str)) || (decide (((List.length p_s:Int):Int) > 32)))),(0,sv p_s)] ?_ ?_)))))))))
 rcases Zb (p_s == ([]:Str)) with hc1 | hc1
 refine Zk hc1 (Zk hc1 (Zk hc1 (Zt hc1 ?_)))
 exact GL.jump0 (fun _ _ h=>h) () rfl ⟨(by rw [hc1]; rfl),rfl,trivial⟩
 refine Zu hc1 Ym (Zu hc1 (OV.lenStr rfl rfl) (Zu hc1 (OV.ibin (v:=.bool (decide (((List.length p_s:Int):Int) > 32))) rfl rfl rfl) (Zn hc1 ?_)))
 exact GL.jump0 (fun _ _ h=>h) () rfl ⟨(by rw [hc1]; rfl),rfl,trivial⟩
 refine Zm ?_
 obtain ⟨J3,h,hR4⟩:=h
 refine GL.cut (α:=Bool) 5 J3 (fun b2=>[(17,.bool b2),(0,sv p_s)]) ?_ ?_
 rcases h.em with ⟨hc5,h⟩ | ⟨hc5,h⟩
 refine Zk hc5 (Zk hc5 (Zk hc5 (Zk hc5 (Zt hc5 ?_))))
 exact Yj I3 true h
 refine Zu hc5 Ym ?_
 obtain ⟨c6,ha7,hb8,h⟩:=h
 refine Zu hc5 (OV.indexStr rfl rfl rfl ha7 hb8) (GL.call h (Yt hc5) rfl Qj6 (vs:=[.int .u8 (c6.toNat:Int)]) rfl ?_)
 rintro _ H10 ⟨r9,rfl,h⟩
 refine Zu hc5 (OV.not rfl) (Zn hc5 ?_)
 exact Yj I3 (!r9) h
 intro b2 H11 h
 replace h:=hR4 b2 H11 h
 refine GL.nil (Yd h (fun hc12 h=>?_) fun hc12 h=>?_)
 refine Zo (Za (GL.nil ?_))
 exact Y1 I3 ⟨false,rfl,h⟩
 refine GC.skip (GC.seq (Zo (Za (GL.nil (GC.block (Yp h (fun x13=>[(3,.int .i64 x13),(0,sv p_s)]) ?_))))))
 intro x13 H15 J14 h
 refine GC.seq (Zo (Zm (Zm (Zr (Zi (.bool (decide ((x13:Int) < (List.length p_s:Int)))) (GL.nil (Yd h (fun hc16 h=>?_) fun hc16 h=>?_)))))))
 refine GC.skip (GC.seq (GC.block (Zo (Zm (Zm (Ys h fun c17 h=>?_))))))
 refine Za (GL.nil (Zo (Zm (Zc h Qj6 ?_))))
 rintro _ H21 ⟨r20,rfl,h⟩
 refine Zv (OV.not rfl) (Zm (GL.cut0 8 [(38,.bool ((!r20) && (!((decide (((c17.toNat:Int):Int) ≥ 65)) && (decide (((c17.toNat:Int):Int)≤90)))))),(0,sv p_s),(3,.int .i64 x13),(4,.int .u8 (c17.toNat:Int))] ?_ ?_))
 rcases Zb (!r20) with hc22 | hc22
 refine Zu hc22 Ym (Zu hc22 (OV.ibin (v:=.bool (decide (((c17.toNat:Int):Int) ≥ 65))) rfl rfl rfl) (Zu hc22 Ym (GL.cut0 3 [(36,.bool ((decide (((c17.toNat:Int):Int) ≥ 65)) && (decide (((c17.toNat:Int):Int)≤90)))),(0,sv p_s),(3,.int .i64 x13),(4,.int .u8 (c17.toNat:Int)),(30,.bool (!r20))] ?_ ?_)))
 rcases Zb (decide (((c17.toNat:Int):Int) ≥ 65)) with hc23 | hc23
 refine Zu hc23 Ym (Zu hc23 (OV.ibin (v:=.bool (decide (((c17.toNat:Int):Int)≤90))) rfl rfl rfl) (Zu hc22 (OV.pickT rfl hc23 rfl) ?_))
 exact GL.jump0 (fun _ _ h=>h) () rfl ⟨(by rw [hc23]; rfl),rfl,rfl,rfl,rfl,trivial⟩
 refine Zk hc23 (Zk hc23 (Zu hc22 (OV.pickF rfl hc23 rfl) ?_))
 exact GL.jump0 (fun _ _ h=>h) () rfl ⟨(by rw [hc23]; rfl),rfl,rfl,rfl,rfl,trivial⟩
 refine Zu hc22 (OV.not rfl) (Zt hc22 ?_)
 exact GL.jump0 (fun _ _ h=>h) () rfl ⟨(by rw [hc22]; rfl),rfl,rfl,rfl,trivial⟩
 refine Zk hc22 (Zk hc22 (Zk hc22 (GL.skip ⟨_,rfl,.inr rfl⟩ rfl (GL.skip ⟨_,rfl,.inr rfl⟩ rfl (Zk hc22 (Zk hc22 (Zn hc22 ?_)))))))
 exact GL.jump0 (fun _ _ h=>h) () rfl ⟨(by rw [hc22]; rfl),rfl,rfl,rfl,trivial⟩
 refine Zm (GL.cut0 8 [(47,.bool (((!r20) && (!((decide (((c17.toNat:Int):Int) ≥ 65)) && (decide (((c17.toNat:Int):Int)≤90))))) && (!((decide (((c17.toNat:Int):Int) ≥ 48)) && (decide (((c17.toNat:Int):Int)≤57)))))),(0,sv p_s),(3,.int .i64 x13),(4,.int .u8 (c17.toNat:Int))] ?_ ?_)
 rcases Zb ((!r20) && (!((decide (((c17.toNat:Int):Int) ≥ 65)) && (decide (((c17.toNat:Int):Int)≤90))))) with hc24 | hc24
 refine Zu hc24 Ym (Zu hc24 (OV.ibin (v:=.bool (decide (((c17.toNat:Int):Int) ≥ 48))) rfl rfl rfl) (Zu hc24 Ym (GL.cut0 3 [(45,.bool ((decide (((c17.toNat:Int):Int) ≥ 48)) && (decide (((c17.toNat:Int):Int)≤57)))),(0,sv p_s),(3,.int .i64 x13),(4,.int .u8 (c17.toNat:Int)),(39,.bool ((!r20) && (!((decide (((c17.toNat:Int):Int) ≥ 65)) && (decide (((c17.toNat:Int):Int)≤90))))))] ?_ ?_)))
 rcases Zb (decide (((c17.toNat:Int):Int) ≥ 48)) with hc25 | hc25
 refine Zu hc25 Ym (Zu hc25 (OV.ibin (v:=.bool (decide (((c17.toNat:Int):Int)≤57))) rfl rfl rfl) (Zu hc24 (OV.pickT rfl hc25 rfl) ?_))
 exact GL.jump0 (fun _ _ h=>h) () rfl ⟨(by rw [hc25]; rfl),rfl,rfl,rfl,rfl,trivial⟩
 refine Zk hc25 (Zk hc25 (Zu hc24 (OV.pickF rfl hc25 rfl) ?_))
 exact GL.jump0 (fun _ _ h=>h) () rfl ⟨(by rw [hc25]; rfl),rfl,rfl,rfl,rfl,trivial⟩
 refine Zu hc24 (OV.not rfl) (Zt hc24 ?_)
 exact GL.jump0 (fun _ _ h=>h) () rfl ⟨(by rw [hc24]; rfl),rfl,rfl,rfl,trivial⟩
 refine Zk hc24 (Zk hc24 (Zk hc24 (GL.skip ⟨_,rfl,.inr rfl⟩ rfl (GL.skip ⟨_,rfl,.inr rfl⟩ rfl (Zk hc24 (Zk hc24 (Zn hc24 ?_)))))))
 exact GL.jump0 (fun _ _ h=>h) () rfl ⟨(by rw [hc24]; rfl),rfl,rfl,rfl,trivial⟩
 refine Zm (GL.cut0 3 [(51,.bool ((((!r20) && (!((decide (((c17.toNat:Int):Int) ≥ 65)) && (decide (((c17.toNat:Int):Int)≤90))))) && (!((decide (((c17.toNat:Int):Int) ≥ 48)) && (decide (((c17.toNat:Int):Int)≤57))))) && (((c17.toNat:Int):Int) != 95))),(0,sv p_s),(3,.int .i64 x13)] ?_ ?_)
 rcases Zb (((!r20) && (!((decide (((c17.toNat:Int):Int) ≥ 65)) && (decide (((c17.toNat:Int):Int)≤90))))) && (!((decide (((c17.toNat:Int):Int) ≥ 48)) && (decide (((c17.toNat:Int):Int)≤57))))) with hc26 | hc26
 refine Zu hc26 Ym (Zu hc26 (OV.ibin (v:=.bool (((c17.toNat:Int):Int) != 95)) rfl rfl rfl) (Zt hc26 ?_))
 exact GL.jump0 (fun _ _ h=>h) () rfl ⟨(by rw [hc26]; rfl),rfl,rfl,trivial⟩
 refine Zk hc26 (Zk hc26 (Zn hc26 ?_))
 exact GL.jump0 (fun _ _ h=>h) () rfl ⟨(by rw [hc26]; rfl),rfl,rfl,trivial⟩
 refine GL.nil (Yd h (fun hc27 h=>?_) fun hc27 h=>?_)
 refine Zo (Za (GL.nil ?_))
 exact Y1 I3 ⟨false,rfl,h⟩
 refine GC.skip_to (fun _ _ h=>h) (GC.region (Zm (Zi (.int .i64 (w .i64 (x13+1))) (Za ?_))))
 exact Yj I3 (w .i64 (x13+1)) h
 refine GC.exit_to (fun _ _ h=>h) (Zo (Za (GL.nil ?_)))
 exact Y1 I3 ⟨true,rfl,h⟩
def Qix (C:Ctx) (p_s:Str) (K:Bool→Heap→Prop) (H:Heap):Prop:=
 nw ([sv [109,111,100,117,108,101],sv [105,109,112,111,114,116],sv [112,117,98],sv [116,121,112,101],sv [105,110,112,117,116],sv [114,101,108],sv [110,101,118,101,114],sv [110,111,116],sv [97,110,100],sv [111,114],sv [105,102],sv [116,104,101,110],sv [101,108,115,101],sv [116,114,117,101],sv [102,97,108,115,101],sv [99,111,117,110,116],sv [115,117,109],sv [109,105,110],sv [109,97,120],sv [110,101,103],sv [108,101,110],sv [98,105,103],sv [105,110,116],sv [98,111,111,108],sv [116,101,120,116],sv [116,117,112,108,101]]) (fun b1 H2=>
 lp (α:=Int) 0 H2 (fun x3 J4 H5=>
 ift (decide ((x3:Int) < (Sl.len (Sl.of (some (b1,0)) 26 26):Int)))
 (ixa (Sl.of (some (b1,0)) 26 26) x3 fun p7=>
 ldS H5 (p7.1,p7.2+(x3:Int).toNat*1) fun x12=>
 ift (x12 == p_s)
 (K true H5)
 (J4 (w .i64 (x3+1)) H5))
 (K false H5))) H
theorem QmW (C p_s K H) (h:Qix C p_s K H):QbK C p_s K H:=by
 refine Ye Tryz.func158 rfl Tryz.ntmps158 [(0,sv p_s)] (Zo (Za (GL.nil (Zo (GL.buildSlice (cs:=[sv [109,111,100,117,108,101],sv [105,109,112,111,114,116],sv [112,117,98],sv [116,121,112,101],sv [105,110,112,117,116],sv [114,101,108],sv [110,101,118,101,114],sv [110,111,116],sv [97,110,100],sv [111,114],sv [105,102],sv [116,104,101,110],sv [101,108,115,101],sv [116,114,117,101],sv [102,97,108,115,101],sv [99,111,117,110,116],sv [115,117,109],sv [109,105,110],sv [109,97,120],sv [110,101,103],sv [108,101,110],sv [98,105,103],sv [105,110,116],sv [98,111,111,108],sv [116,101,120,116],sv [116,117,112,108,101]]) h trivial rfl (vs:=[(0,sv [109,111,100,117,108,101]),(1,sv [105,109,112,111,114,116]),(2,sv [112,117,98]),(3,sv [116,121,112,101]),(4,sv [105,110,112,117,116]),(5,sv [114,101,108]),(6,sv [110,101,118,101,114]),(7,sv [110,111,116]),(8,sv [97,110,100]),(9,sv [111,114]),(10,sv [105,102]),(11,sv [116,104,101,110]),(12,sv [101,108,115,101]),(13,sv [116,114,117,101]),(14,sv [102,97,108,115,101]),(15,sv [99,111,117,110,116]),(16,sv [115,117,109]),(17,sv [109,105,110]),(18,sv [109,97,120]),(19,sv [110,101,103]),(20,sv [108,101,110]),(21,sv [98,105,103]),(22,sv [105,110,116]),(23,sv [98,111,111,108]),(24,sv [116,101,120,116]),(25,sv [116,117,112,108,101])]) rfl ⟨9,fun _=>by kernel_rfl⟩ ?_)))))
 intro b1 H2 h
 refine Za (GL.nil (GC.seq (Zo (Za (GL.nil (GC.block (Yp h (fun x3=>[(4,.int .i64 x3),(0,sv p_s),(3,slv (Sl.of (some (b1,0)) 26 26))]) ?_)))))))
 intro x3 H5 J4 h
 refine GC.seq (Zo (Zm (Zm (Zq (Zi (.bool (decide ((x3:Int) < (Sl.len (Sl.of (some (b1,0)) 26 26):Int)))) (GL.nil (Yd h (fun u6 h=>?_) fun u6 h=>?_)))))))
 refine GC.skip (GC.seq (GC.block (Zo (Zm (Zm (Yx h fun p7 h=>?_))))))
 refine Yl h fun x12 h=>?_
 refine Zm (Zv (OV.sbin (a:=x12) (b:=p_s) (v:=.bool (x12 == p_s)) rfl rfl rfl) (GL.nil (Yd h (fun u14 h=>?_) fun u14 h=>?_)))
 refine Zo (Za (GL.nil ?_))
 exact Y1 I3 ⟨true,rfl,h⟩
 refine GC.skip_to (fun _ _ h=>h) (GC.region (Zm (Zi (.int .i64 (w .i64 (x3+1))) (Za ?_))))
 exact Yj I3 (w .i64 (x3+1)) h
 refine GC.exit_to (fun _ _ h=>h) (Zo (Za (GL.nil ?_)))
 exact Y1 I3 ⟨false,rfl,h⟩
def Qlj (C:Ctx) (p_s:Str) (K:Bool→Heap→Prop) (H:Heap):Prop:=
 jn (α:=Bool) (fun b1 H8=>
 jn (α:=Bool) (fun b9 H21=>
 K b9 H21)
 (fun J10=>ift b1
 (slS p_s 1 (List.length p_s:Int) fun t13=>
 Qat C t13 (fun r19 H20=>
 J10 r19 H20) H8)
 (J10 false H8)))
 (fun J2=>ift (decide (((List.length p_s:Int):Int) > 1))
 (ixs p_s 0 fun c5=>
 J2 (((c5.toNat:Int):Int) == 39) H)
 (J2 false H))
theorem Qo3 (C p_s K H) (h:Qlj C p_s K H):Qgz C p_s K H:=by
 refine Ye Tryz.func159 rfl Tryz.ntmps159 [(0,sv p_s)] (Zo (Za (GL.nil (Zo (Zm (Zr (Zi (.bool (decide (((List.length p_s:Int):Int) > 1))) (Zm ?_))))))))
 obtain ⟨J2,h,hR3⟩:=h
 refine GL.cut (α:=Bool) 4 J2 (fun b1=>[(10,.bool b1),(0,sv p_s)]) ?_ ?_
 rcases h.em with ⟨u4,h⟩ | ⟨u4,h⟩
 refine Zu u4 Ym ?_
 obtain ⟨c5,ha6,hb7,h⟩:=h
 refine Zu u4 (OV.indexStr rfl rfl rfl ha6 hb7) (Zu u4 (OV.ibin (v:=.bool (((c5.toNat:Int):Int) == 39)) rfl rfl rfl) (Zt u4 ?_))
 exact Yj I3 (((c5.toNat:Int):Int) == 39) h
 refine Zk u4 (Zk u4 (Zk u4 (Zn u4 ?_)))
 exact Yj I3 false h
 intro b1 H8 h
 replace h:=hR3 b1 H8 h
 refine Zm ?_
 obtain ⟨J10,h,hR11⟩:=h
 refine GL.cut (α:=Bool) 4 J10 (fun b9=>[(15,.bool b9)]) ?_ ?_
 rcases h.em with ⟨u12,h⟩ | ⟨u12,h⟩
 refine Zu u12 Ym ?_
 obtain ⟨h14,h15,h16,t13,h17,h⟩:=h
 refine Zu u12 (OV.sliceStr (s:=p_s) h14 h15 h16 h17 rfl rfl rfl rfl rfl rfl) (GL.call h (Yt u12) rfl QaB (vs:=[sv t13]) rfl ?_)
 rintro _ H20 ⟨r19,rfl,h⟩
 refine Zt u12 ?_
 exact Yj I3 r19 h
 refine Zk u12 (Zk u12 (Zk u12 (Zn u12 ?_)))
 exact Yj I3 false h
 intro b9 H21 h
 replace h:=hR11 b9 H21 h
 refine Za (GL.nil ?_)
 exact Y1 I3 ⟨b9,rfl,h⟩
def QmG (C:Ctx) (p_s:Str) (K:Bool→Heap→Prop) (H:Heap):Prop:=
 lp (α:=Int) 0 H (fun x1 J2 H3=>
 ift (decide ((x1:Int) < (List.length p_s:Int)))
 (ixs p_s x1 fun c5=>
 ift (((c5.toNat:Int):Int) == 46)
 (slS p_s 0 x1 fun t9=>
 Qat C t9 (fun r15 H16=>
 jn (α:=Bool) (fun b17 H29=>
 K b17 H29)
 (fun J18=>ift r15
 (slS p_s (w .i64 (x1+1)) (List.length p_s:Int) fun t21=>
 Qat C t21 (fun r27 H28=>
 J18 r27 H28) H16)
 (J18 false H16))) H3)
 (J2 (w .i64 (x1+1)) H3))
 (Qat C p_s (fun r30 H31=>
 K r30 H31) H3))
theorem Qqc (C p_s K H) (h:QmG C p_s K H):Qe1 C p_s K H:=by
 refine Ye Tryz.func160 rfl Tryz.ntmps160 [(0,sv p_s)] (Zo (Za (GL.nil (GC.seq (Zo (Za (GL.nil (GC.block (Yp h (fun x1=>[(3,.int .i64 x1),(0,sv p_s)]) ?_)))))))))
 intro x1 H3 J2 h
 refine GC.seq (Zo (Zm (Zm (Zr (Zi (.bool (decide ((x1:Int) < (List.length p_s:Int)))) (GL.nil (Yd h (fun u4 h=>?_) fun u4 h=>?_)))))))
 refine GC.skip (GC.seq (GC.block (Zo (Zm (Zm (Ys h fun c5 h=>?_))))))
 refine Zi (.bool (((c5.toNat:Int):Int) == 46)) (GL.nil (Yd h (fun u8 h=>?_) fun u8 h=>?_))
 refine Zo (Zm (Zm ?_))
 obtain ⟨h10,h11,h12,t9,h13,h⟩:=h
 refine Zv (OV.sliceStr (s:=p_s) h10 h11 h12 h13 rfl rfl rfl rfl rfl rfl) (Zc h QaB ?_)
 rintro _ H16 ⟨r15,rfl,h⟩
 refine Zm ?_
 obtain ⟨J18,h,hR19⟩:=h
 refine GL.cut (α:=Bool) 6 J18 (fun b17=>[(24,.bool b17)]) ?_ ?_
 rcases h.em with ⟨u20,h⟩ | ⟨u20,h⟩
 refine Zu u20 Ym (Zu u20 Ym (Zu u20 (OV.ibin (v:=.int .i64 (w .i64 (x1+1))) rfl rfl rfl) ?_))
 obtain ⟨h22,h23,h24,t21,h25,h⟩:=h
 refine Zu u20 (OV.sliceStr (s:=p_s) h22 h23 h24 h25 rfl rfl rfl rfl rfl rfl) (GL.call h (Yt u20) rfl QaB (vs:=[sv t21]) rfl ?_)
 rintro _ H28 ⟨r27,rfl,h⟩
 refine Zt u20 ?_
 exact Yj I3 r27 h
 refine Zk u20 (Zk u20 (Zk u20 (Zk u20 (Zk u20 (Zn u20 ?_)))))
 exact Yj I3 false h
 intro b17 H29 h
 replace h:=hR19 b17 H29 h
 refine Za (GL.nil ?_)
 exact Y1 I3 ⟨b17,rfl,h⟩
 refine GC.skip_to (fun _ _ h=>h) (GC.region (Zm (Zi (.int .i64 (w .i64 (x1+1))) (Za ?_))))
 exact Yj I3 (w .i64 (x1+1)) h
 refine GC.exit_to (fun _ _ h=>h) (Zo (Zm (Zc h QaB ?_)))
 rintro _ H31 ⟨r30,rfl,h⟩
 refine Za (GL.nil ?_)
 exact Y1 I3 ⟨r30,rfl,h⟩
def QmF (C:Ctx) (p_e:Qa) (p_pattern:Bool) (K:Bool→Heap→Prop) (H:Heap):Prop:=
 nw (Qa.c p_e) (fun b1 H2=>
 ldL H2 ((b1,0).1,(b1,0).2+8) fun x3=>
 jn (α:=Bool) (fun x6 H7=>
 ldI H7 .u8 ((b1,0).1,(b1,0).2+0) fun x108=>
 jn (α:=Bool) (fun b110 H118=>
 ift b110
 (K false H118)
 (lp (α:=Bool×Int) (x6,0) H118 (fun x120 J121 H122=>
 ift ((decide ((x120.2:Int) < (Sl.len x3:Int))) && x120.1)
 (ldL H122 ((b1,0).1,(b1,0).2+8) fun x125=>
 ixa x125 x120.2 fun p127=>
 ldT H122 Qa.c (p127.1,p127.2+(x120.2:Int).toNat*9) fun x132=>
 QbZ C x132 p_pattern (fun r134 H135=>
 J121 (r134,(w .i64 (x120.2+1))) H135) H122)
 (K x120.1 H122))))
 (fun J111=>ift ((x108:Int) != 1)
 (ldT H7 Qb.c ((b1,0).1,(b1,0).2+4) fun x114=>
 Qd4 C x114 (fun r116 H117=>
 J111 (!r116) H117) H7)
 (J111 false H7)))
 (fun J5=>ldI H2 .u8 ((b1,0).1,(b1,0).2+0) fun x9=>
 ift ((x9:Int) == 1)
 (ldT H2 Qb.c ((b1,0).1,(b1,0).2+4) fun x12=>
 nw (Qb.c Qb.zero) (fun b14 H15=>
 stT (b14,0) (Qb.c x12) (fun H16=>
 ldI H16 .u8 ((b14,0).1,(b14,0).2+0) fun x17=>
 jn (α:=Bool) (fun b19 H25=>
 jn (α:=Bool) (fun b26 H34=>
 jn (α:=Bool) (fun b36 H42=>
 J5 b36 H42)
 (fun J37=>ift (b26 && (((Sl.len x3:Int):Int) == 0))
 (ldS H34 ((b1,0).1,(b1,0).2+3) fun x40=>
 J37 (x40 == ([]:Str)) H34)
 (J37 false H34)))
 (fun J27=>ift b19
 (ldT H25 Qb.c (b14,0) fun x30=>
 Qbx C x30 (fun r32 H33=>
 J27 ((r32:Int) == 0) H33) H25)
 (J27 false H25)))
 (fun J20=>ift (decide ((x17:Int) ≥ 1))
 (ldI H16 .u8 ((b14,0).1,(b14,0).2+0) fun x23=>
 J20 (decide ((x23:Int)≤4)) H16)
 (J20 false H16))) H15) H2)
 (ift ((x9:Int) == 2)
 (ldS H2 ((b1,0).1,(b1,0).2+3) fun x44=>
 QeU C x44 (fun r46 H47=>
 J5 (r46 && (((Sl.len x3:Int):Int) == 0)) H47) H2)
 (ift ((x9:Int) == 3)
 (jn (α:=Bool) (fun b50 H56=>
 J5 (b50 && (((Sl.len x3:Int):Int) == 0)) H56)
 (fun J51=>ift p_pattern
 (ldS H2 ((b1,0).1,(b1,0).2+3) fun x54=>
 J51 (x54 == ([]:Str)) H2)
 (J51 false H2)))
 (ift ((x9:Int) == 4)
 (ldS H2 ((b1,0).1,(b1,0).2+3) fun x59=>
 J5 (((x59 == ([]:Str)) && (((Sl.len x3:Int):Int) != 1)) && (decide (((Sl.len x3:Int):Int)≤16))) H2)
 (ift ((x9:Int) == 5)
 (ldS H2 ((b1,0).1,(b1,0).2+3) fun x64=>
 Qe1 C x64 (fun r66 H67=>
 J5 (r66 && (decide (((Sl.len x3:Int):Int)≤8))) H67) H2)
 (ift ((x9:Int) == 6)
 (jn (α:=Bool) (fun b70 H78=>
 jn (α:=Bool) (fun b79 H87=>
 J5 b79 H87)
 (fun J80=>ift b70
 (ldS H78 ((b1,0).1,(b1,0).2+3) fun x83=>
 Qcl C x83 (fun r85 H86=>
 J80 (((Sl.len x3:Int):Int) == r85) H86) H78)
 (J80 false H78)))
 (fun J71=>ift (!p_pattern)
 (ldS H2 ((b1,0).1,(b1,0).2+3) fun x74=>
 Qcl C x74 (fun r76 H77=>
 J71 (decide ((r76:Int) > 0)) H77) H2)
 (J71 false H2)))
 (ift ((x9:Int) == 7)
 (jn (α:=Bool) (fun b89 H97=>
 J5 (b89 && (((Sl.len x3:Int):Int) == 1)) H97)
 (fun J90=>ift (!p_pattern)
 (ldS H2 ((b1,0).1,(b1,0).2+3) fun x93=>
 Qat C x93 (fun r95 H96=>
 J90 r95 H96) H2)
 (J90 false H2)))
 (ift ((x9:Int) == 8)
 (jn (α:=Bool) (fun b100 H106=>
 J5 (b100 && (((Sl.len x3:Int):Int) == 3)) H106)
 (fun J101=>ift (!p_pattern)
 (ldS H2 ((b1,0).1,(b1,0).2+3) fun x104=>
 J101 (x104 == ([]:Str)) H2)
 (J101 false H2)))
 (J5 false H2)))))))))) H
theorem Qqb (C p_e p_pattern K H) (h:QmF C p_e p_pattern K H):QbZ C p_e p_pattern K H:=by
 refine Ye Tryz.func161 rfl Tryz.ntmps161 [(0,.agg (Qa.c p_e).toArray),(1,.bool p_pattern)] (Zo (GL.box (v:=.agg (Qa.c p_e).toArray) (cs:=Qa.c p_e) h trivial rfl rfl rfl ?_))
 intro b1 H2 h
 refine Za (GL.nil (Zo (Za (GL.nil (Zo (Zf (Yl h fun x3 h=>?_)))))))
 refine Zq (Za (GL.nil ?_))
 obtain ⟨J5,h,hR8⟩:=h
 refine GC.join (α:=Bool) J5 (fun x6=>[(5,.bool x6),(1,.bool p_pattern),(2,pv (some (b1,0))),(6,.int .i64 (Sl.len x3:Int))]) ?_ ?_
 refine Zo (Zf (Yl h fun x9 h=>?_))
 refine GL.nil (GC.block (Zo (Zi (.bool ((x9:Int) == 1)) (Za (GL.nil (Yd h (fun u11 h=>?_) fun u11 h=>?_))))))
 refine Zo (Zf ?_)
 obtain ⟨x12,v13,h⟩:=h
 refine Zv (OV.loadT rfl rfl rfl v13) (GL.alloc (cs:=Qb.c Qb.zero) h trivial rfl rfl rfl ?_)
 intro b14 H15 h
 refine GL.storeT (p:=(b14,0)) (vs:=Qb.c x12) h trivial rfl rfl rfl rfl ?_
 intro H16 h
 refine GL.nil (GC.region (Zf (Yl h fun x17 h=>?_)))
 refine Zi (.bool (decide ((x17:Int) ≥ 1))) (Zm ?_)
 obtain ⟨J20,h,hR21⟩:=h
 refine GL.cut (α:=Bool) 4 J20 (fun b19=>[(25,.bool b19),(1,.bool p_pattern),(2,pv (some (b1,0))),(6,.int .i64 (Sl.len x3:Int)),(7,pv (some (b14,0)))]) ?_ ?_
 rcases h.em with ⟨u22,h⟩ | ⟨u22,h⟩
 refine Zu u22 Yf ?_
 obtain ⟨x23,v24,h⟩:=h
 refine Zu u22 (Yo v24) (Zu u22 (OV.ibin (v:=.bool (decide ((x23:Int)≤4))) rfl rfl rfl) (Zt u22 ?_))
 exact Yj I3 (decide ((x23:Int)≤4)) h
 refine Zk u22 (Zk u22 (Zk u22 (Zn u22 ?_)))
 exact Yj I3 false h
 intro b19 H25 h
 replace h:=hR21 b19 H25 h
 refine Zm ?_
 obtain ⟨J27,h,hR28⟩:=h
 refine GL.cut (α:=Bool) 4 J27 (fun b26=>[(30,.bool b26),(1,.bool p_pattern),(2,pv (some (b1,0))),(6,.int .i64 (Sl.len x3:Int))]) ?_ ?_
 rcases h.em with ⟨u29,h⟩ | ⟨u29,h⟩
 obtain ⟨x30,v31,h⟩:=h
 refine Zu u29 (OV.loadT rfl rfl rfl v31) (GL.call h (Yt u29) rfl QkZ (vs:=[.agg (Qb.c x30).toArray]) rfl ?_)
 rintro _ H33 ⟨r32,rfl,h⟩
 refine Zu u29 (OV.ibin (v:=.bool ((r32:Int) == 0)) rfl rfl rfl) (Zt u29 ?_)
 exact Yj I3 ((r32:Int) == 0) h
 refine Zk u29 (Zk u29 (Zk u29 (Zn u29 ?_)))
 exact Yj I3 false h
 intro b26 H34 h
 replace h:=hR28 b26 H34 h
 refine Zm (GL.cut0 3 [(34,.bool (b26 && (((Sl.len x3:Int):Int) == 0))),(1,.bool p_pattern),(2,pv (some (b1,0))),(6,.int .i64 (Sl.len x3:Int))] ?_ ?_)
 rcases Bool.eq_false_or_eq_true b26 with u35 | u35
 refine Zu u35 Ym (Zu u35 (OV.ibin (v:=.bool (((Sl.len x3:Int):Int) == 0)) rfl rfl rfl) (Zt u35 ?_))
 exact GL.jump0 (fun _ _ h=>h) () rfl ⟨(by rw [u35]; rfl),rfl,rfl,rfl,trivial⟩
 refine Zk u35 (Zk u35 (Zn u35 ?_))
 exact GL.jump0 (fun _ _ h=>h) () rfl ⟨(by rw [u35]; rfl),rfl,rfl,rfl,trivial⟩
 refine Zm ?_
 obtain ⟨J37,h,hR38⟩:=h
 refine GL.cut (α:=Bool) 4 J37 (fun b36=>[(39,.bool b36),(1,.bool p_pattern),(2,pv (some (b1,0))),(6,.int .i64 (Sl.len x3:Int))]) ?_ ?_
 rcases h.em with ⟨u39,h⟩ | ⟨u39,h⟩
 refine Zu u39 Yf ?_
 obtain ⟨x40,v41,h⟩:=h
 refine Zu u39 (Yo v41) (Zu u39 (OV.sbin (a:=x40) (b:=([]:Str)) (v:=.bool (x40 == ([]:Str))) rfl rfl rfl) (Zt u39 ?_))
 exact Yj I3 (x40 == ([]:Str)) h
 refine Zk u39 (Zk u39 (Zk u39 (Zn u39 ?_)))
 exact Yj I3 false h
 intro b36 H42 h
 replace h:=hR38 b36 H42 h
 refine Za ?_
 exact Yj I3 b36 h
 refine Zo (Zi (.bool ((x9:Int) == 2)) (Za (GL.nil (Yd h (fun u43 h=>?_) fun u43 h=>?_))))
 refine GC.region (Zf (Yl h fun x44 h=>?_))
 refine Zc h Qif ?_
 rintro _ H47 ⟨r46,rfl,h⟩
 refine Zm (GL.cut0 3 [(48,.bool (r46 && (((Sl.len x3:Int):Int) == 0))),(1,.bool p_pattern),(2,pv (some (b1,0))),(6,.int .i64 (Sl.len x3:Int))] ?_ ?_)
 rcases Bool.eq_false_or_eq_true r46 with u48 | u48
 refine Zu u48 Ym (Zu u48 (OV.ibin (v:=.bool (((Sl.len x3:Int):Int) == 0)) rfl rfl rfl) (Zt u48 ?_))
 exact GL.jump0 (fun _ _ h=>h) () rfl ⟨(by rw [u48]; rfl),rfl,rfl,rfl,trivial⟩
 refine Zk u48 (Zk u48 (Zn u48 ?_))
 exact GL.jump0 (fun _ _ h=>h) () rfl ⟨(by rw [u48]; rfl),rfl,rfl,rfl,trivial⟩
 refine Za ?_
 exact Yj I3 (r46 && (((Sl.len x3:Int):Int) == 0)) h
 refine Zo (Zi (.bool ((x9:Int) == 3)) (Za (GL.nil (Yd h (fun u49 h=>?_) fun u49 h=>?_))))
 refine GC.region (Zm (Zm ?_))
 obtain ⟨J51,h,hR52⟩:=h
 refine GL.cut (α:=Bool) 4 J51 (fun b50=>[(56,.bool b50),(1,.bool p_pattern),(2,pv (some (b1,0))),(6,.int .i64 (Sl.len x3:Int))]) ?_ ?_
 rcases h.em with ⟨u53,h⟩ | ⟨u53,h⟩
 refine Zu u53 Yf ?_
 obtain ⟨x54,v55,h⟩:=h
 refine Zu u53 (Yo v55) (Zu u53 (OV.sbin (a:=x54) (b:=([]:Str)) (v:=.bool (x54 == ([]:Str))) rfl rfl rfl) (Zt u53 ?_))
 exact Yj I3 (x54 == ([]:Str)) h
 refine Zk u53 (Zk u53 (Zk u53 (Zn u53 ?_)))
 exact Yj I3 false h
 intro b50 H56 h
 replace h:=hR52 b50 H56 h
 refine Zm (GL.cut0 3 [(60,.bool (b50 && (((Sl.len x3:Int):Int) == 0))),(1,.bool p_pattern),(2,pv (some (b1,0))),(6,.int .i64 (Sl.len x3:Int))] ?_ ?_)
 rcases Bool.eq_false_or_eq_true b50 with u57 | u57
 refine Zu u57 Ym (Zu u57 (OV.ibin (v:=.bool (((Sl.len x3:Int):Int) == 0)) rfl rfl rfl) (Zt u57 ?_))
 exact GL.jump0 (fun _ _ h=>h) () rfl ⟨(by rw [u57]; rfl),rfl,rfl,rfl,trivial⟩
 refine Zk u57 (Zk u57 (Zn u57 ?_))
 exact GL.jump0 (fun _ _ h=>h) () rfl ⟨(by rw [u57]; rfl),rfl,rfl,rfl,trivial⟩
 refine Za ?_
 exact Yj I3 (b50 && (((Sl.len x3:Int):Int) == 0)) h
 refine Zo (Zi (.bool ((x9:Int) == 4)) (Za (GL.nil (Yd h (fun u58 h=>?_) fun u58 h=>?_))))
 refine GC.region (Zf (Yl h fun x59 h=>?_))
 refine Zv (OV.sbin (a:=x59) (b:=([]:Str)) (v:=.bool (x59 == ([]:Str))) rfl rfl rfl) (Zm (GL.cut0 3 [(69,.bool ((x59 == ([]:Str)) && (((Sl.len x3:Int):Int) != 1))),(1,.bool p_pattern),(2,pv (some (b1,0))),(6,.int .i64 (Sl.len x3:Int))] ?_ ?_))
 rcases Zb (x59 == ([]:Str)) with u61 | u61
 refine Zu u61 Ym (Zu u61 (OV.ibin (v:=.bool (((Sl.len x3:Int):Int) != 1)) rfl rfl rfl) (Zt u61 ?_))
 exact GL.jump0 (fun _ _ h=>h) () rfl ⟨(by rw [u61]; rfl),rfl,rfl,rfl,trivial⟩
 refine Zk u61 (Zk u61 (Zn u61 ?_))
 exact GL.jump0 (fun _ _ h=>h) () rfl ⟨(by rw [u61]; rfl),rfl,rfl,rfl,trivial⟩
 refine Zm (GL.cut0 3 [(73,.bool (((x59 == ([]:Str)) && (((Sl.len x3:Int):Int) != 1)) && (decide (((Sl.len x3:Int):Int)≤16)))),(1,.bool p_pattern),(2,pv (some (b1,0))),(6,.int .i64 (Sl.len x3:Int))] ?_ ?_)
 rcases Zb ((x59 == ([]:Str)) && (((Sl.len x3:Int):Int) != 1)) with u62 | u62
 refine Zu u62 Ym (Zu u62 (OV.ibin (v:=.bool (decide (((Sl.len x3:Int):Int)≤16))) rfl rfl rfl) (Zt u62 ?_))
 exact GL.jump0 (fun _ _ h=>h) () rfl ⟨(by rw [u62]; rfl),rfl,rfl,rfl,trivial⟩
 refine Zk u62 (Zk u62 (Zn u62 ?_))
 exact GL.jump0 (fun _ _ h=>h) () rfl ⟨(by rw [u62]; rfl),rfl,rfl,rfl,trivial⟩
 refine Za ?_
 exact Yj I3 (((x59 == ([]:Str)) && (((Sl.len x3:Int):Int) != 1)) && (decide (((Sl.len x3:Int):Int)≤16))) h
 refine Zo (Zi (.bool ((x9:Int) == 5)) (Za (GL.nil (Yd h (fun u63 h=>?_) fun u63 h=>?_))))
 refine GC.region (Zf (Yl h fun x64 h=>?_))
 refine Zc h QgD ?_
 rintro _ H67 ⟨r66,rfl,h⟩
 refine Zm (GL.cut0 3 [(82,.bool (r66 && (decide (((Sl.len x3:Int):Int)≤8)))),(1,.bool p_pattern),(2,pv (some (b1,0))),(6,.int .i64 (Sl.len x3:Int))] ?_ ?_)
 rcases Bool.eq_false_or_eq_true r66 with u68 | u68
 refine Zu u68 Ym (Zu u68 (OV.ibin (v:=.bool (decide (((Sl.len x3:Int):Int)≤8))) rfl rfl rfl) (Zt u68 ?_))
 exact GL.jump0 (fun _ _ h=>h) () rfl ⟨(by rw [u68]; rfl),rfl,rfl,rfl,trivial⟩
 refine Zk u68 (Zk u68 (Zn u68 ?_))
 exact GL.jump0 (fun _ _ h=>h) () rfl ⟨(by rw [u68]; rfl),rfl,rfl,rfl,trivial⟩
 refine Za ?_
 exact Yj I3 (r66 && (decide (((Sl.len x3:Int):Int)≤8))) h
 refine Zo (Zi (.bool ((x9:Int) == 6)) (Za (GL.nil (Yd h (fun u69 h=>?_) fun u69 h=>?_))))
 refine GC.region (Zm (Zv (OV.not rfl) (Zm ?_)))
 obtain ⟨J71,h,hR72⟩:=h
 refine GL.cut (α:=Bool) 5 J71 (fun b70=>[(92,.bool b70),(1,.bool p_pattern),(2,pv (some (b1,0))),(6,.int .i64 (Sl.len x3:Int))]) ?_ ?_
 rcases h.em with ⟨u73,h⟩ | ⟨u73,h⟩
 refine Zu u73 Yf ?_
 obtain ⟨x74,v75,h⟩:=h
 refine Zu u73 (Yo v75) (GL.call h (Yt u73) rfl Qk1 (vs:=[sv x74]) rfl ?_)
 rintro _ H77 ⟨r76,rfl,h⟩
 refine Zu u73 (OV.ibin (v:=.bool (decide ((r76:Int) > 0))) rfl rfl rfl) (Zt u73 ?_)
 exact Yj I3 (decide ((r76:Int) > 0)) h
 refine Zk u73 (Zk u73 (Zk u73 (Zk u73 (Zn u73 ?_))))
 exact Yj I3 false h
 intro b70 H78 h
 replace h:=hR72 b70 H78 h
 refine Zm ?_
 obtain ⟨J80,h,hR81⟩:=h
 refine GL.cut (α:=Bool) 6 J80 (fun b79=>[(99,.bool b79),(1,.bool p_pattern),(2,pv (some (b1,0))),(6,.int .i64 (Sl.len x3:Int))]) ?_ ?_
 rcases h.em with ⟨u82,h⟩ | ⟨u82,h⟩
 refine Zu u82 Ym (Zu u82 Yf ?_)
 obtain ⟨x83,v84,h⟩:=h
 refine Zu u82 (Yo v84) (GL.call h (Yt u82) rfl Qk1 (vs:=[sv x83]) rfl ?_)
 rintro _ H86 ⟨r85,rfl,h⟩
 refine Zu u82 (OV.ibin (v:=.bool (((Sl.len x3:Int):Int) == r85)) rfl rfl rfl) (Zt u82 ?_)
 exact Yj I3 (((Sl.len x3:Int):Int) == r85) h
 refine Zk u82 (Zk u82 (Zk u82 (Zk u82 (Zk u82 (Zn u82 ?_)))))
 exact Yj I3 false h
 intro b79 H87 h
 replace h:=hR81 b79 H87 h
 refine Za ?_
 exact Yj I3 b79 h
 refine Zo (Zi (.bool ((x9:Int) == 7)) (Za (GL.nil (Yd h (fun u88 h=>?_) fun u88 h=>?_))))
 refine GC.region (Zm (Zv (OV.not rfl) (Zm ?_)))
 obtain ⟨J90,h,hR91⟩:=h
 refine GL.cut (α:=Bool) 4 J90 (fun b89=>[(108,.bool b89),(1,.bool p_pattern),(2,pv (some (b1,0))),(6,.int .i64 (Sl.len x3:Int))]) ?_ ?_
 rcases h.em with ⟨u92,h⟩ | ⟨u92,h⟩
 refine Zu u92 Yf ?_
 obtain ⟨x93,v94,h⟩:=h
 refine Zu u92 (Yo v94) (GL.call h (Yt u92) rfl QaB (vs:=[sv x93]) rfl ?_)
 rintro _ H96 ⟨r95,rfl,h⟩
 refine Zt u92 ?_
 exact Yj I3 r95 h
 refine Zk u92 (Zk u92 (Zk u92 (Zn u92 ?_)))
 exact Yj I3 false h
 intro b89 H97 h
 replace h:=hR91 b89 H97 h
 refine Zm (GL.cut0 3 [(112,.bool (b89 && (((Sl.len x3:Int):Int) == 1))),(1,.bool p_pattern),(2,pv (some (b1,0))),(6,.int .i64 (Sl.len x3:Int))] ?_ ?_)
 rcases Bool.eq_false_or_eq_true b89 with u98 | u98
 refine Zu u98 Ym (Zu u98 (OV.ibin (v:=.bool (((Sl.len x3:Int):Int) == 1)) rfl rfl rfl) (Zt u98 ?_))
 exact GL.jump0 (fun _ _ h=>h) () rfl ⟨(by rw [u98]; rfl),rfl,rfl,rfl,trivial⟩
 refine Zk u98 (Zk u98 (Zn u98 ?_))
 exact GL.jump0 (fun _ _ h=>h) () rfl ⟨(by rw [u98]; rfl),rfl,rfl,rfl,trivial⟩
 refine Za ?_
 exact Yj I3 (b89 && (((Sl.len x3:Int):Int) == 1)) h
 refine Zo (Zi (.bool ((x9:Int) == 8)) (Za (GL.nil (Yd h (fun u99 h=>?_) fun u99 h=>?_))))
 refine GC.region (Zm (Zv (OV.not rfl) (Zm ?_)))
 obtain ⟨J101,h,hR102⟩:=h
 refine GL.cut (α:=Bool) 4 J101 (fun b100=>[(121,.bool b100),(1,.bool p_pattern),(2,pv (some (b1,0))),(6,.int .i64 (Sl.len x3:Int))]) ?_ ?_
 rcases h.em with ⟨u103,h⟩ | ⟨u103,h⟩
 refine Zu u103 Yf ?_
 obtain ⟨x104,v105,h⟩:=h
 refine Zu u103 (Yo v105) (Zu u103 (OV.sbin (a:=x104) (b:=([]:Str)) (v:=.bool (x104 == ([]:Str))) rfl rfl rfl) (Zt u103 ?_))
 exact Yj I3 (x104 == ([]:Str)) h
 refine Zk u103 (Zk u103 (Zk u103 (Zn u103 ?_)))
 exact Yj I3 false h
 intro b100 H106 h
 replace h:=hR102 b100 H106 h
 refine Zm (GL.cut0 3 [(125,.bool (b100 && (((Sl.len x3:Int):Int) == 3))),(1,.bool p_pattern),(2,pv (some (b1,0))),(6,.int .i64 (Sl.len x3:Int))] ?_ ?_)
 rcases Bool.eq_false_or_eq_true b100 with u107 | u107
 refine Zu u107 Ym (Zu u107 (OV.ibin (v:=.bool (((Sl.len x3:Int):Int) == 3)) rfl rfl rfl) (Zt u107 ?_))
 exact GL.jump0 (fun _ _ h=>h) () rfl ⟨(by rw [u107]; rfl),rfl,rfl,rfl,trivial⟩
 refine Zk u107 (Zk u107 (Zn u107 ?_))
 exact GL.jump0 (fun _ _ h=>h) () rfl ⟨(by rw [u107]; rfl),rfl,rfl,rfl,trivial⟩
 refine Za ?_
 exact Yj I3 (b100 && (((Sl.len x3:Int):Int) == 3)) h
 exact Yk I3 false h
 intro x6 H7 h
 replace h:=hR8 x6 H7 h
 refine GC.seq (Zo (Zf (Yl h fun x108 h=>?_)))
 refine Zi (.bool ((x108:Int) != 1)) (Zm ?_)
 obtain ⟨J111,h,hR112⟩:=h
 refine GL.cut (α:=Bool) 5 J111 (fun b110=>[(134,.bool b110),(1,.bool p_pattern),(2,pv (some (b1,0))),(5,.bool x6),(6,.int .i64 (Sl.len x3:Int))]) ?_ ?_
 rcases h.em with ⟨u113,h⟩ | ⟨u113,h⟩
 refine Zu u113 Yf ?_
 obtain ⟨x114,v115,h⟩:=h
 refine Zu u113 (OV.loadT rfl rfl rfl v115) (GL.call h (Yt u113) rfl QqB (vs:=[.agg (Qb.c x114).toArray]) rfl ?_)
 rintro _ H117 ⟨r116,rfl,h⟩
 refine Zu u113 (OV.not rfl) (Zt u113 ?_)
 exact Yj I3 (!r116) h
 refine Zk u113 (Zk u113 (Zk u113 (Zk u113 (Zn u113 ?_))))
 exact Yj I3 false h
 intro b110 H118 h
 replace h:=hR112 b110 H118 h
 refine GL.nil (Yd h (fun u119 h=>?_) fun u119 h=>?_)
 refine Zo (Za (GL.nil ?_))
 exact Y1 I3 ⟨false,rfl,h⟩
 refine GC.skip (GC.seq (Zo (Za (GL.nil (GC.block (Yp h (fun x120=>[(5,.bool x120.1),(8,.int .i64 x120.2),(1,.bool p_pattern),(2,pv (some (b1,0))),(6,.int .i64 (Sl.len x3:Int))]) ?_))))))
 intro x120 H122 J121 h
 refine GC.seq (Zo (Zm (Zm (Zi (.bool (decide ((x120.2:Int) < (Sl.len x3:Int)))) (Zm (GL.cut0 2 [(140,.bool ((decide ((x120.2:Int) < (Sl.len x3:Int))) && x120.1)),(1,.bool p_pattern),(2,pv (some (b1,0))),(5,.bool x120.1),(6,.int .i64 (Sl.len x3:Int)),(8,.int .i64 x120.2)] ?_ ?_))))))
 rcases Zb (decide ((x120.2:Int) < (Sl.len x3:Int))) with u123 | u123
 refine Zu u123 Ym (Zt u123 ?_)
 exact GL.jump0 (fun _ _ h=>h) () rfl ⟨(by rw [u123]; rfl),rfl,rfl,rfl,rfl,rfl,trivial⟩
 refine Zk u123 (Zn u123 ?_)
 exact GL.jump0 (fun _ _ h=>h) () rfl ⟨(by rw [u123]; rfl),rfl,rfl,rfl,rfl,rfl,trivial⟩
 refine GL.nil (Yd h (fun u124 h=>?_) fun u124 h=>?_)
 refine GC.skip (GC.seq (GC.block (GC.region (Zf (Yl h fun x125 h=>?_)))))
 refine Zm (Yx h fun p127 h=>?_)
 obtain ⟨x132,v133,h⟩:=h
 refine Zv (OV.loadT rfl rfl rfl v133) (Zm (Zc h QgC ?_))
 rintro _ H135 ⟨r134,rfl,h⟩
 refine Za (GL.nil_to (fun _ _ h=>h) (GC.region (Zm (Zi (.int .i64 (w .i64 (x120.2+1))) (Za ?_)))))
 exact Yj I3 (r134,(w .i64 (x120.2+1))) h
 refine GC.exit_to (fun _ _ h=>h) (Zo (Zm (Za (GL.nil ?_))))
 exact Y1 I3 ⟨x120.1,rfl,h⟩
def QmI (C:Ctx) (p_t:Qe) (K:Bool→Heap→Prop) (H:Heap):Prop:=
 nw (Qe.c p_t) (fun b1 H2=>
 jn (α:=Bool) (fun x4 H5=>
 lp (α:=Bool×Int) (x4,0) H5 (fun x65 J66 H67=>
 ldL H67 ((b1,0).1,(b1,0).2+1) fun x68=>
 ift ((decide ((x65.2:Int) < (Sl.len x68:Int))) && x65.1)
 (ldL H67 ((b1,0).1,(b1,0).2+1) fun x72=>
 ixa x72 x65.2 fun p74=>
 ldT H67 Qe.c (p74.1,p74.2+(x65.2:Int).toNat*2) fun x79=>
 QcX C x79 (fun r81 H82=>
 J66 (r81,(w .i64 (x65.2+1))) H82) H67)
 (K x65.1 H67)))
 (fun J3=>ldS H2 ((b1,0).1,(b1,0).2+0) fun x7=>
 jn (α:=Bool) (fun b9 H15=>
 jn (α:=Bool) (fun b16 H22=>
 jn (α:=Bool) (fun b23 H29=>
 jn (α:=Bool) (fun b30 H38=>
 ift b30
 (ldL H38 ((b1,0).1,(b1,0).2+1) fun x40=>
 J3 (((Sl.len x40:Int):Int) == 0) H38)
 (ldS H38 ((b1,0).1,(b1,0).2+0) fun x42=>
 ift (x42 == ([116,117,112,108,101]:Str))
 (ldL H38 ((b1,0).1,(b1,0).2+1) fun x45=>
 jn (α:=Bool) (fun b47 H53=>
 J3 b47 H53)
 (fun J48=>ift (((Sl.len x45:Int):Int) != 1)
 (ldL H38 ((b1,0).1,(b1,0).2+1) fun x51=>
 J48 (decide (((Sl.len x51:Int):Int)≤16)) H38)
 (J48 false H38)))
 (ldS H38 ((b1,0).1,(b1,0).2+0) fun x54=>
 Qe1 C x54 (fun r56 H57=>
 jn (α:=Bool) (fun b58 H64=>
 J3 b58 H64)
 (fun J59=>ift r56
 (ldL H57 ((b1,0).1,(b1,0).2+1) fun x62=>
 J59 (decide (((Sl.len x62:Int):Int)≤8)) H57)
 (J59 false H57))) H38)))
 (fun J31=>ift b23
 (J31 true H29)
 (ldS H29 ((b1,0).1,(b1,0).2+0) fun x34=>
 Qgz C x34 (fun r36 H37=>
 J31 r36 H37) H29)))
 (fun J24=>ift b16
 (J24 true H22)
 (ldS H22 ((b1,0).1,(b1,0).2+0) fun x27=>
 J24 (x27 == ([116,101,120,116]:Str)) H22)))
 (fun J17=>ift b9
 (J17 true H15)
 (ldS H15 ((b1,0).1,(b1,0).2+0) fun x20=>
 J17 (x20 == ([98,105,103]:Str)) H15)))
 (fun J10=>ift (x7 == ([98,111,111,108]:Str))
 (J10 true H2)
 (ldS H2 ((b1,0).1,(b1,0).2+0) fun x13=>
 J10 (x13 == ([105,110,116]:Str)) H2)))) H
theorem Qqe (C p_t K H) (h:QmI C p_t K H):QcX C p_t K H:=by
 refine Ye Tryz.func162 rfl Tryz.ntmps162 [(0,.agg (Qe.c p_t).toArray)] (Zo (GL.box (v:=.agg (Qe.c p_t).toArray) (cs:=Qe.c p_t) h trivial rfl rfl rfl ?_))
 intro b1 H2 h
 refine Za (GL.nil (Zo (Za (GL.nil ?_))))
 obtain ⟨J3,h,hR6⟩:=h
 refine GC.join (α:=Bool) J3 (fun x4=>[(3,.bool x4),(1,pv (some (b1,0)))]) ?_ ?_
 refine GC.block (Zo (Zf (Yl h fun x7 h=>?_)))
 refine Zv (OV.sbin (a:=x7) (b:=([98,111,111,108]:Str)) (v:=.bool (x7 == ([98,111,111,108]:Str))) rfl rfl rfl) (Zm ?_)
 obtain ⟨J10,h,hR11⟩:=h
 refine GL.cut (α:=Bool) 4 J10 (fun b9=>[(22,.bool b9),(1,pv (some (b1,0)))]) ?_ ?_
 rcases h.em with ⟨u12,h⟩ | ⟨u12,h⟩
 refine Zk u12 (Zk u12 (Zk u12 (Zt u12 ?_)))
 exact Yj I3 true h
 refine Zu u12 Yf ?_
 obtain ⟨x13,v14,h⟩:=h
 refine Zu u12 (Yo v14) (Zu u12 (OV.sbin (a:=x13) (b:=([105,110,116]:Str)) (v:=.bool (x13 == ([105,110,116]:Str))) rfl rfl rfl) (Zn u12 ?_))
 exact Yj I3 (x13 == ([105,110,116]:Str)) h
 intro b9 H15 h
 replace h:=hR11 b9 H15 h
 refine Zm ?_
 obtain ⟨J17,h,hR18⟩:=h
 refine GL.cut (α:=Bool) 4 J17 (fun b16=>[(27,.bool b16),(1,pv (some (b1,0)))]) ?_ ?_
 rcases h.em with ⟨u19,h⟩ | ⟨u19,h⟩
 refine Zk u19 (Zk u19 (Zk u19 (Zt u19 ?_)))
 exact Yj I3 true h
 refine Zu u19 Yf ?_
 obtain ⟨x20,v21,h⟩:=h
 refine Zu u19 (Yo v21) (Zu u19 (OV.sbin (a:=x20) (b:=([98,105,103]:Str)) (v:=.bool (x20 == ([98,105,103]:Str))) rfl rfl rfl) (Zn u19 ?_))
 exact Yj I3 (x20 == ([98,105,103]:Str)) h
 intro b16 H22 h
 replace h:=hR18 b16 H22 h
 refine Zm ?_
 obtain ⟨J24,h,hR25⟩:=h
 refine GL.cut (α:=Bool) 4 J24 (fun b23=>[(32,.bool b23),(1,pv (some (b1,0)))]) ?_ ?_
 rcases h.em with ⟨u26,h⟩ | ⟨u26,h⟩
 refine Zk u26 (Zk u26 (Zk u26 (Zt u26 ?_)))
 exact Yj I3 true h
 refine Zu u26 Yf ?_
 obtain ⟨x27,v28,h⟩:=h
 refine Zu u26 (Yo v28) (Zu u26 (OV.sbin (a:=x27) (b:=([116,101,120,116]:Str)) (v:=.bool (x27 == ([116,101,120,116]:Str))) rfl rfl rfl) (Zn u26 ?_))
 exact Yj I3 (x27 == ([116,101,120,116]:Str)) h
 intro b23 H29 h
 replace h:=hR25 b23 H29 h
 refine Zm ?_
 obtain ⟨J31,h,hR32⟩:=h
 refine GL.cut (α:=Bool) 4 J31 (fun b30=>[(37,.bool b30),(1,pv (some (b1,0)))]) ?_ ?_
 rcases h.em with ⟨u33,h⟩ | ⟨u33,h⟩
 refine Zk u33 (Zk u33 (Zk u33 (Zt u33 ?_)))
 exact Yj I3 true h
 refine Zu u33 Yf ?_
 obtain ⟨x34,v35,h⟩:=h
 refine Zu u33 (Yo v35) (GL.call h (Yt u33) rfl Qk3 (vs:=[sv x34]) rfl ?_)
 rintro _ H37 ⟨r36,rfl,h⟩
 refine Zn u33 ?_
 exact Yj I3 r36 h
 intro b30 H38 h
 replace h:=hR32 b30 H38 h
 refine Za (GL.nil (Yd h (fun u39 h=>?_) fun u39 h=>?_))
 refine GC.region (Zf (Yl h fun x40 h=>?_))
 refine Zq (Zi (.bool (((Sl.len x40:Int):Int) == 0)) (Za ?_))
 exact Yj I3 (((Sl.len x40:Int):Int) == 0) h
 refine Zo (Zf (Yl h fun x42 h=>?_))
 refine Zv (OV.sbin (a:=x42) (b:=([116,117,112,108,101]:Str)) (v:=.bool (x42 == ([116,117,112,108,101]:Str))) rfl rfl rfl) (Za (GL.nil (Yd h (fun u44 h=>?_) fun u44 h=>?_)))
 refine GC.region (Zf (Yl h fun x45 h=>?_))
 refine Zq (Zi (.bool (((Sl.len x45:Int):Int) != 1)) (Zm ?_))
 obtain ⟨J48,h,hR49⟩:=h
 refine GL.cut (α:=Bool) 5 J48 (fun b47=>[(55,.bool b47),(1,pv (some (b1,0)))]) ?_ ?_
 rcases h.em with ⟨u50,h⟩ | ⟨u50,h⟩
 refine Zu u50 Yf ?_
 obtain ⟨x51,v52,h⟩:=h
 refine Zu u50 (Yo v52) (Zu u50 (OV.lenSl rfl rfl) (Zu u50 (OV.ibin (v:=.bool (decide (((Sl.len x51:Int):Int)≤16))) rfl rfl rfl) (Zt u50 ?_)))
 exact Yj I3 (decide (((Sl.len x51:Int):Int)≤16)) h
 refine Zk u50 (Zk u50 (Zk u50 (Zk u50 (Zn u50 ?_))))
 exact Yj I3 false h
 intro b47 H53 h
 replace h:=hR49 b47 H53 h
 refine Za ?_
 exact Yj I3 b47 h
 refine GC.region (Zf (Yl h fun x54 h=>?_))
 refine Zc h QgD ?_
 rintro _ H57 ⟨r56,rfl,h⟩
 refine Zm ?_
 obtain ⟨J59,h,hR60⟩:=h
 refine GL.cut (α:=Bool) 5 J59 (fun b58=>[(13,.bool b58),(1,pv (some (b1,0)))]) ?_ ?_
 rcases h.em with ⟨u61,h⟩ | ⟨u61,h⟩
 refine Zu u61 Yf ?_
 obtain ⟨x62,v63,h⟩:=h
 refine Zu u61 (Yo v63) (Zu u61 (OV.lenSl rfl rfl) (Zu u61 (OV.ibin (v:=.bool (decide (((Sl.len x62:Int):Int)≤8))) rfl rfl rfl) (Zt u61 ?_)))
 exact Yj I3 (decide (((Sl.len x62:Int):Int)≤8)) h
 refine Zk u61 (Zk u61 (Zk u61 (Zk u61 (Zn u61 ?_))))
 exact Yj I3 false h
 intro b58 H64 h
 replace h:=hR60 b58 H64 h
 refine Za ?_
 exact Yj I3 b58 h
 intro x4 H5 h
 replace h:=hR6 x4 H5 h
 refine GC.seq (Zo (Za (GL.nil (GC.block (Yp h (fun x65=>[(3,.bool x65.1),(4,.int .i64 x65.2),(1,pv (some (b1,0)))]) ?_)))))
 intro x65 H67 J66 h
 refine GC.seq (Zo (Zm (Zf (Yl h fun x68 h=>?_))))
 refine Zq (Zi (.bool (decide ((x65.2:Int) < (Sl.len x68:Int)))) (Zm (GL.cut0 2 [(63,.bool ((decide ((x65.2:Int) < (Sl.len x68:Int))) && x65.1)),(1,pv (some (b1,0))),(3,.bool x65.1),(4,.int .i64 x65.2)] ?_ ?_)))
 rcases Zb (decide ((x65.2:Int) < (Sl.len x68:Int))) with u70 | u70
 refine Zu u70 Ym (Zt u70 ?_)
 exact GL.jump0 (fun _ _ h=>h) () rfl ⟨(by rw [u70]; rfl),rfl,rfl,rfl,trivial⟩
 refine Zk u70 (Zn u70 ?_)
 exact GL.jump0 (fun _ _ h=>h) () rfl ⟨(by rw [u70]; rfl),rfl,rfl,rfl,trivial⟩
 refine GL.nil (Yd h (fun u71 h=>?_) fun u71 h=>?_)
 refine GC.skip (GC.seq (GC.block (GC.region (Zf (Yl h fun x72 h=>?_)))))
 refine Zm (Yx h fun p74 h=>?_)
 obtain ⟨x79,v80,h⟩:=h
 refine Zv (OV.loadT rfl rfl rfl v80) (Zc h Qmn ?_)
 rintro _ H82 ⟨r81,rfl,h⟩
 refine Za (GL.nil_to (fun _ _ h=>h) (GC.region (Zm (Zi (.int .i64 (w .i64 (x65.2+1))) (Za ?_)))))
 exact Yj I3 (r81,(w .i64 (x65.2+1))) h
 refine GC.exit_to (fun _ _ h=>h) (Zo (Zm (Za (GL.nil ?_))))
 exact Y1 I3 ⟨x65.1,rfl,h⟩
def Qiz (C:Ctx) (p_s:Str) (K:Bool→Heap→Prop) (H:Heap):Prop:=
 jn (α:=Bool) (fun b2 H9=>
 jn (α:=Bool) (fun b10 H17=>
 ift b10
 (K false H17)
 (slS p_s 1 (List.length p_s:Int) fun t19=>
 catOk ([97]:Str) t19∧
 Qd1 C (([97]:Str)++t19) (fun r26 H27=>
 K r26 H27) H17))
 (fun J11=>ift b2
 (J11 true H9)
 (ixs p_s 0 fun c14=>
 J11 (decide (((c14.toNat:Int):Int) > 90)) H9)))
 (fun J3=>ift ((p_s == ([]:Str)) || (decide (((List.length p_s:Int):Int) > 32)))
 (J3 true H)
 (ixs p_s 0 fun c6=>
 J3 (decide (((c6.toNat:Int):Int) < 65)) H))
theorem QmY (C p_s K H) (h:Qiz C p_s K H):QeU C p_s K H:=by
 refine Ye Tryz.func163 rfl Tryz.ntmps163 [(0,sv p_s)] (Zo (Za (GL.nil (GC.seq (Zo (Zm (Zv (OV.sbin (a:=p_s) (b:=([]:Str)) (v:=.bool (p_s == ([]:Str))) rfl rfl rfl) (Zm (GL.cut0 4 [(9,.bool ((p_s == ([]:Str)) || (decide (((List.length p_s:Int):Int) > 32)))),(0,sv p_s)] ?_ ?_)))))))))
 rcases Zb (p_s == ([]:Str)) with u1 | u1
 refine Zk u1 (Zk u1 (Zk u1 (Zt u1 ?_)))
 exact GL.jump0 (fun _ _ h=>h) () rfl ⟨(by rw [u1]; rfl),rfl,trivial⟩
 refine Zu u1 Ym (Zu u1 (OV.lenStr rfl rfl) (Zu u1 (OV.ibin (v:=.bool (decide (((List.length p_s:Int):Int) > 32))) rfl rfl rfl) (Zn u1 ?_)))
 exact GL.jump0 (fun _ _ h=>h) () rfl ⟨(by rw [u1]; rfl),rfl,trivial⟩
 refine Zm ?_
 obtain ⟨J3,h,hR4⟩:=h
 refine GL.cut (α:=Bool) 4 J3 (fun b2=>[(14,.bool b2),(0,sv p_s)]) ?_ ?_
 rcases h.em with ⟨u5,h⟩ | ⟨u5,h⟩
 refine Zk u5 (Zk u5 (Zk u5 (Zt u5 ?_)))
 exact Yj I3 true h
 refine Zu u5 Ym ?_
 obtain ⟨c6,ha7,hb8,h⟩:=h
 refine Zu u5 (OV.indexStr rfl rfl rfl ha7 hb8) (Zu u5 (OV.ibin (v:=.bool (decide (((c6.toNat:Int):Int) < 65))) rfl rfl rfl) (Zn u5 ?_))
 exact Yj I3 (decide (((c6.toNat:Int):Int) < 65)) h
 intro b2 H9 h
 replace h:=hR4 b2 H9 h
 refine Zm ?_
 obtain ⟨J11,h,hR12⟩:=h
 refine GL.cut (α:=Bool) 4 J11 (fun b10=>[(19,.bool b10),(0,sv p_s)]) ?_ ?_
 rcases h.em with ⟨u13,h⟩ | ⟨u13,h⟩
 refine Zk u13 (Zk u13 (Zk u13 (Zt u13 ?_)))
 exact Yj I3 true h
 refine Zu u13 Ym ?_
 obtain ⟨c14,ha15,hb16,h⟩:=h
 refine Zu u13 (OV.indexStr rfl rfl rfl ha15 hb16) (Zu u13 (OV.ibin (v:=.bool (decide (((c14.toNat:Int):Int) > 90))) rfl rfl rfl) (Zn u13 ?_))
 exact Yj I3 (decide (((c14.toNat:Int):Int) > 90)) h
 intro b10 H17 h
 replace h:=hR12 b10 H17 h
 refine GL.nil (Yd h (fun u18 h=>?_) fun u18 h=>?_)
 refine Zo (Za (GL.nil ?_))
 exact Y1 I3 ⟨false,rfl,h⟩
 refine GC.skip (Zo (Zm ?_))
 obtain ⟨h20,h21,h22,t19,h23,h⟩:=h
 refine Zv (OV.sliceStr (s:=p_s) h20 h21 h22 h23 rfl rfl rfl rfl rfl rfl) ?_
 obtain ⟨hl25,h⟩:=h
 refine Zv (OV.cat (a:=([97]:Str)) (b:=t19) rfl rfl hl25) (Zc h Qfr ?_)
 rintro _ H27 ⟨r26,rfl,h⟩
 refine Za (GL.nil ?_)
 exact Y1 I3 ⟨r26,rfl,h⟩
def Qjp (C:Ctx) (p_a:Qe) (p_b:Qe) (K:Bool→Heap→Prop) (H:Heap):Prop:=
 nw (Qe.c p_a) (fun b1 H2=>
 nw (Qe.c p_b) (fun b3 H4=>
 ldS H4 ((b1,0).1,(b1,0).2+0) fun x5=>
 ldS H4 ((b3,0).1,(b3,0).2+0) fun x7=>
 jn (α:=Bool) (fun b9 H19=>
 K b9 H19)
 (fun J10=>ift (x5 == x7)
 (ldL H4 ((b1,0).1,(b1,0).2+1) fun x13=>
 ldL H4 ((b3,0).1,(b3,0).2+1) fun x15=>
 QB C x13 x15 (.func (.func 164) (List.toArray []) (List.toArray []):Value) (fun r17 H18=>
 J10 r17 H18) H4)
 (J10 false H4))) H2) H
theorem QnL (C p_a p_b K H) (h:Qjp C p_a p_b K H):Qb8 C p_a p_b K H:=by
 refine Ye Tryz.func164 rfl Tryz.ntmps164 [(0,.agg (Qe.c p_a).toArray),(1,.agg (Qe.c p_b).toArray)] (Zo (GL.box (v:=.agg (Qe.c p_a).toArray) (cs:=Qe.c p_a) h trivial rfl rfl rfl ?_))
 intro b1 H2 h
 refine GL.box (v:=.agg (Qe.c p_b).toArray) (cs:=Qe.c p_b) h trivial rfl rfl rfl ?_
 intro b3 H4 h
 refine Za (GL.nil (Zo (Zf (Yl h fun x5 h=>?_))))
 refine Zf (Yl h fun x7 h=>?_)
 refine Zv (OV.sbin (a:=x5) (b:=x7) (v:=.bool (x5 == x7)) rfl rfl rfl) (Zm ?_)
 obtain ⟨J10,h,hR11⟩:=h
 refine GL.cut (α:=Bool) 6 J10 (fun b9=>[(16,.bool b9)]) ?_ ?_
 rcases h.em with ⟨u12,h⟩ | ⟨u12,h⟩
 refine Zu u12 Yf ?_
 obtain ⟨x13,v14,h⟩:=h
 refine Zu u12 (Yo v14) (Zu u12 Yf ?_)
 obtain ⟨x15,v16,h⟩:=h
 refine Zu u12 (Yo v16) (GL.call h (Yt u12) rfl QbQ (vs:=[slv x13,slv x15,.func (.func 164) (List.toArray []) (List.toArray [])]) rfl ?_)
 rintro _ H18 ⟨r17,rfl,h⟩
 refine Zt u12 ?_
 exact Yj I3 r17 h
 refine Zk u12 (Zk u12 (Zk u12 (Zk u12 (Zk u12 (Zn u12 ?_)))))
 exact Yj I3 false h
 intro b9 H19 h
 replace h:=hR11 b9 H19 h
 refine Za (GL.nil ?_)
 exact Y1 I3 ⟨b9,rfl,h⟩
def QiG (C:Ctx) (p_a:Qb) (p_b:Qb) (K:Bool→Heap→Prop) (H:Heap):Prop:=
 nw (Qb.c p_a) (fun b1 H2=>
 nw (Qb.c p_b) (fun b3 H4=>
 ldI H4 .u8 ((b1,0).1,(b1,0).2+0) fun x5=>
 ldI H4 .u8 ((b3,0).1,(b3,0).2+0) fun x7=>
 jn (α:=Bool) (fun b9 H17=>
 jn (α:=Bool) (fun b18 H26=>
 jn (α:=Bool) (fun b27 H37=>
 K b27 H37)
 (fun J28=>ift b18
 (ldL H26 ((b1,0).1,(b1,0).2+3) fun x31=>
 ldL H26 ((b3,0).1,(b3,0).2+3) fun x33=>
 Qz C x31 x33 (.func (.func 165) (List.toArray []) (List.toArray []):Value) (fun r35 H36=>
 J28 r35 H36) H26)
 (J28 false H26)))
 (fun J19=>ift b9
 (ldS H17 ((b1,0).1,(b1,0).2+2) fun x22=>
 ldS H17 ((b3,0).1,(b3,0).2+2) fun x24=>
 J19 (x22 == x24) H17)
 (J19 false H17)))
 (fun J10=>ift ((x5:Int) == x7)
 (ldI H4 .i64 ((b1,0).1,(b1,0).2+1) fun x13=>
 ldI H4 .i64 ((b3,0).1,(b3,0).2+1) fun x15=>
 J10 ((x13:Int) == x15) H4)
 (J10 false H4))) H2) H
theorem Qm3 (C p_a p_b K H) (h:QiG C p_a p_b K H):QbN C p_a p_b K H:=by
 refine Ye Tryz.func165 rfl Tryz.ntmps165 [(0,.agg (Qb.c p_a).toArray),(1,.agg (Qb.c p_b).toArray)] (Zo (GL.box (v:=.agg (Qb.c p_a).toArray) (cs:=Qb.c p_a) h trivial rfl rfl rfl ?_))
 intro b1 H2 h
 refine GL.box (v:=.agg (Qb.c p_b).toArray) (cs:=Qb.c p_b) h trivial rfl rfl rfl ?_
 intro b3 H4 h
 refine Za (GL.nil (Zo (Zf (Yl h fun x5 h=>?_))))
 refine Zf (Yl h fun x7 h=>?_)
 refine Zi (.bool ((x5:Int) == x7)) (Zm ?_)
 obtain ⟨J10,h,hR11⟩:=h
 refine GL.cut (α:=Bool) 6 J10 (fun b9=>[(16,.bool b9),(2,pv (some (b1,0))),(3,pv (some (b3,0)))]) ?_ ?_
 rcases h.em with ⟨u12,h⟩ | ⟨u12,h⟩
 refine Zu u12 Yf ?_
 obtain ⟨x13,v14,h⟩:=h
 refine Zu u12 (Yo v14) (Zu u12 Yf ?_)
 obtain ⟨x15,v16,h⟩:=h
 refine Zu u12 (Yo v16) (Zu u12 (OV.ibin (v:=.bool ((x13:Int) == x15)) rfl rfl rfl) (Zt u12 ?_))
 exact Yj I3 ((x13:Int) == x15) h
 refine Zk u12 (Zk u12 (Zk u12 (Zk u12 (Zk u12 (Zn u12 ?_)))))
 exact Yj I3 false h
 intro b9 H17 h
 replace h:=hR11 b9 H17 h
 refine Zm ?_
 obtain ⟨J19,h,hR20⟩:=h
 refine GL.cut (α:=Bool) 6 J19 (fun b18=>[(23,.bool b18),(2,pv (some (b1,0))),(3,pv (some (b3,0)))]) ?_ ?_
 rcases h.em with ⟨u21,h⟩ | ⟨u21,h⟩
 refine Zu u21 Yf ?_
 obtain ⟨x22,v23,h⟩:=h
 refine Zu u21 (Yo v23) (Zu u21 Yf ?_)
 obtain ⟨x24,v25,h⟩:=h
 refine Zu u21 (Yo v25) (Zu u21 (OV.sbin (a:=x22) (b:=x24) (v:=.bool (x22 == x24)) rfl rfl rfl) (Zt u21 ?_))
 exact Yj I3 (x22 == x24) h
 refine Zk u21 (Zk u21 (Zk u21 (Zk u21 (Zk u21 (Zn u21 ?_)))))
 exact Yj I3 false h
 intro b18 H26 h
 replace h:=hR20 b18 H26 h
 refine Zm ?_
 obtain ⟨J28,h,hR29⟩:=h
 refine GL.cut (α:=Bool) 6 J28 (fun b27=>[(30,.bool b27)]) ?_ ?_
 rcases h.em with ⟨u30,h⟩ | ⟨u30,h⟩
 refine Zu u30 Yf ?_
 obtain ⟨x31,v32,h⟩:=h
 refine Zu u30 (Yo v32) (Zu u30 Yf ?_)
 obtain ⟨x33,v34,h⟩:=h
 refine Zu u30 (Yo v34) (GL.call h (Yt u30) rfl Qbr (vs:=[slv x31,slv x33,.func (.func 165) (List.toArray []) (List.toArray [])]) rfl ?_)
 rintro _ H36 ⟨r35,rfl,h⟩
 refine Zt u30 ?_
 exact Yj I3 r35 h
 refine Zk u30 (Zk u30 (Zk u30 (Zk u30 (Zk u30 (Zn u30 ?_)))))
 exact Yj I3 false h
 intro b27 H37 h
 replace h:=hR29 b27 H37 h
 refine Za (GL.nil ?_)
 exact Y1 I3 ⟨b27,rfl,h⟩
def Qnw (C:Ctx) (p_e:Qa) (p_pattern:Bool) (K:Bool→Heap→Prop) (H:Heap):Prop:=
 nw (Qa.c p_e) (fun b1 H2=>
 nw ([.bool p_pattern]) (fun b3 H4=>
 ldL H4 ((b1,0).1,(b1,0).2+8) fun x5=>
 jn (α:=Bool) (fun x8 H9=>
 jn (α:=Bool) (fun b102 H110=>
 jn (α:=Bool) (fun b111 H119=>
 K b111 H119)
 (fun J112=>ift b102
 (ldL H110 ((b1,0).1,(b1,0).2+8) fun x115=>
 QO C x115 (.func (.func 209) (List.toArray []) (List.toArray [pv (some (b3,0))]):Value) (fun r117 H118=>
 J112 r117 H118) H110)
 (J112 false H110)))
 (fun J103=>ift x8
 (ldT H9 Qb.c ((b1,0).1,(b1,0).2+4) fun x106=>
 QeZ C x106 (fun r108 H109=>
 J103 r108 H109) H9)
 (J103 false H9)))
 (fun J7=>ldI H4 .u8 ((b1,0).1,(b1,0).2+0) fun x11=>
 ift ((x11:Int) == 1)
 (ldI H4 .u8 (((b1,0).1,(b1,0).2+4).1,((b1,0).1,(b1,0).2+4).2+0) fun x14=>
 jn (α:=Bool) (fun b17 H25=>
 jn (α:=Bool) (fun b27 H33=>
 K b27 H33)
 (fun J28=>ift (b17 && (((Sl.len x5:Int):Int) == 0))
 (ldS H25 ((b1,0).1,(b1,0).2+3) fun x31=>
 J28 (x31 == ([]:Str)) H25)
 (J28 false H25)))
 (fun J18=>ift ((decide ((x14:Int) ≥ 1)) && (decide ((x14:Int)≤4)))
 (ldT H4 Qb.c ((b1,0).1,(b1,0).2+4) fun x21=>
 Qco C x21 (fun r23 H24=>
 J18 ((r23:Int) == 0) H24) H4)
 (J18 false H4)))
 (ift ((x11:Int) == 2)
 (ldS H4 ((b1,0).1,(b1,0).2+3) fun x35=>
 Qfn C x35 (fun r37 H38=>
 J7 (r37 && (((Sl.len x5:Int):Int) == 0)) H38) H4)
 (ift ((x11:Int) == 3)
 (ldB H4 (b3,0) fun x41=>
 jn (α:=Bool) (fun b43 H49=>
 J7 (b43 && (((Sl.len x5:Int):Int) == 0)) H49)
 (fun J44=>ift x41
 (ldS H4 ((b1,0).1,(b1,0).2+3) fun x47=>
 J44 (x47 == ([]:Str)) H4)
 (J44 false H4)))
 (ift ((x11:Int) == 4)
 (ldS H4 ((b1,0).1,(b1,0).2+3) fun x52=>
 J7 (((x52 == ([]:Str)) && (((Sl.len x5:Int):Int) != 1)) && (decide (((Sl.len x5:Int):Int)≤16))) H4)
 (ift ((x11:Int) == 5)
 (ldS H4 ((b1,0).1,(b1,0).2+3) fun x57=>
 QfN C x57 (fun r59 H60=>
 J7 (r59 && (decide (((Sl.len x5:Int):Int)≤8))) H60) H4)
 (ift ((x11:Int) == 6)
 (dr H4 fun Hs63=>
 ldS Hs63 ((b1,0).1,(b1,0).2+3) fun x65=>
 QjY C (fun r68 H69=>
 Heap.le Hs63 H69∧
 lkM sv (fun x:Int=>(.int .i64 x:Value)) 0 r68 x65 (fun x71 is72=>
 Heap.le Hs63 H69∧
 ldB H69 (b3,0) fun x74=>
 J7 (((!x74) && (decide ((x71:Int) > 0))) && ((x71:Int) == (Sl.len x5:Int))) H69) H69) H4)
 (ift ((x11:Int) == 7)
 (ldB H4 (b3,0) fun x79=>
 jn (α:=Bool) (fun b81 H89=>
 J7 (b81 && (((Sl.len x5:Int):Int) == 1)) H89)
 (fun J82=>ift (!x79)
 (ldS H4 ((b1,0).1,(b1,0).2+3) fun x85=>
 Qbp C x85 (fun r87 H88=>
 J82 r87 H88) H4)
 (J82 false H4)))
 (ift ((x11:Int) == 8)
 (ldB H4 (b3,0) fun x92=>
 jn (α:=Bool) (fun b94 H100=>
 J7 (b94 && (((Sl.len x5:Int):Int) == 3)) H100)
 (fun J95=>ift (!x92)
 (ldS H4 ((b1,0).1,(b1,0).2+3) fun x98=>
 J95 (x98 == ([]:Str)) H4)
 (J95 false H4)))
 (J7 false H4)))))))))) H2) H
theorem QqQ (C p_e p_pattern K H) (h:Qnw C p_e p_pattern K H):Qdd C p_e p_pattern K H:=by
 refine Ye Tryz.func168 rfl Tryz.ntmps168 [(0,.agg (Qa.c p_e).toArray),(1,.bool p_pattern)] (Zo (GL.box (v:=.agg (Qa.c p_e).toArray) (cs:=Qa.c p_e) h trivial rfl rfl rfl ?_))
 intro b1 H2 h
 refine GL.box (v:=.bool p_pattern) (cs:=[.bool p_pattern]) h trivial rfl rfl rfl ?_
 intro b3 H4 h
 refine Za (GL.nil (Zo (Zf (Yl h fun x5 h=>?_))))
 refine Zq (Za (GL.nil (Zo (Za (GL.nil ?_)))))
 obtain ⟨J7,h,hR10⟩:=h
 refine GC.join (α:=Bool) J7 (fun x8=>[(6,.bool x8),(2,pv (some (b1,0))),(3,pv (some (b3,0)))]) ?_ ?_
 refine Zo (Zf (Yl h fun x11 h=>?_))
 refine GL.nil (GC.block (Zo (Zi (.bool ((x11:Int) == 1)) (Za (GL.nil (Yd h (fun u13 h=>?_) fun u13 h=>?_))))))
 refine Zo (Zf (Zf (Yl h fun x14 h=>?_)))
 refine Za (GL.nil (Zo (Zm (Zi (.bool (decide ((x14:Int) ≥ 1))) (Zm (GL.cut0 3 [(24,.bool ((decide ((x14:Int) ≥ 1)) && (decide ((x14:Int)≤4)))),(2,pv (some (b1,0))),(5,.int .i64 (Sl.len x5:Int))] ?_ ?_))))))
 rcases Zb (decide ((x14:Int) ≥ 1)) with u16 | u16
 refine Zu u16 Ym (Zu u16 (OV.ibin (v:=.bool (decide ((x14:Int)≤4))) rfl rfl rfl) (Zt u16 ?_))
 exact GL.jump0 (fun _ _ h=>h) () rfl ⟨(by rw [u16]; rfl),rfl,rfl,trivial⟩
 refine Zk u16 (Zk u16 (Zn u16 ?_))
 exact GL.jump0 (fun _ _ h=>h) () rfl ⟨(by rw [u16]; rfl),rfl,rfl,trivial⟩
 refine Zm ?_
 obtain ⟨J18,h,hR19⟩:=h
 refine GL.cut (α:=Bool) 5 J18 (fun b17=>[(30,.bool b17),(2,pv (some (b1,0))),(5,.int .i64 (Sl.len x5:Int))]) ?_ ?_
 rcases h.em with ⟨u20,h⟩ | ⟨u20,h⟩
 refine Zu u20 Yf ?_
 obtain ⟨x21,v22,h⟩:=h
 refine Zu u20 (OV.loadT rfl rfl rfl v22) (GL.call h (Yt u20) rfl Qk7 (vs:=[.agg (Qb.c x21).toArray]) rfl ?_)
 rintro _ H24 ⟨r23,rfl,h⟩
 refine Zu u20 (OV.ibin (v:=.bool ((r23:Int) == 0)) rfl rfl rfl) (Zt u20 ?_)
 exact Yj I3 ((r23:Int) == 0) h
 refine Zk u20 (Zk u20 (Zk u20 (Zk u20 (Zn u20 ?_))))
 exact Yj I3 false h
 intro b17 H25 h
 replace h:=hR19 b17 H25 h
 refine Zm (GL.cut0 3 [(34,.bool (b17 && (((Sl.len x5:Int):Int) == 0))),(2,pv (some (b1,0)))] ?_ ?_)
 rcases Bool.eq_false_or_eq_true b17 with u26 | u26
 refine Zu u26 Ym (Zu u26 (OV.ibin (v:=.bool (((Sl.len x5:Int):Int) == 0)) rfl rfl rfl) (Zt u26 ?_))
 exact GL.jump0 (fun _ _ h=>h) () rfl ⟨(by rw [u26]; rfl),rfl,trivial⟩
 refine Zk u26 (Zk u26 (Zn u26 ?_))
 exact GL.jump0 (fun _ _ h=>h) () rfl ⟨(by rw [u26]; rfl),rfl,trivial⟩
 refine Zm ?_
 obtain ⟨J28,h,hR29⟩:=h
 refine GL.cut (α:=Bool) 4 J28 (fun b27=>[(39,.bool b27)]) ?_ ?_
 rcases h.em with ⟨u30,h⟩ | ⟨u30,h⟩
 refine Zu u30 Yf ?_
 obtain ⟨x31,v32,h⟩:=h
 refine Zu u30 (Yo v32) (Zu u30 (OV.sbin (a:=x31) (b:=([]:Str)) (v:=.bool (x31 == ([]:Str))) rfl rfl rfl) (Zt u30 ?_))
 exact Yj I3 (x31 == ([]:Str)) h
 refine Zk u30 (Zk u30 (Zk u30 (Zn u30 ?_)))
 exact Yj I3 false h
 intro b27 H33 h
 replace h:=hR29 b27 H33 h
 refine Za (GL.nil ?_)
 exact Y1 I3 ⟨b27,rfl,h⟩
 refine Zo (Zi (.bool ((x11:Int) == 2)) (Za (GL.nil (Yd h (fun u34 h=>?_) fun u34 h=>?_))))
 refine GC.region (Zf (Yl h fun x35 h=>?_))
 refine Zc h Qjh ?_
 rintro _ H38 ⟨r37,rfl,h⟩
 refine Zm (GL.cut0 3 [(48,.bool (r37 && (((Sl.len x5:Int):Int) == 0))),(2,pv (some (b1,0))),(3,pv (some (b3,0)))] ?_ ?_)
 rcases Bool.eq_false_or_eq_true r37 with u39 | u39
 refine Zu u39 Ym (Zu u39 (OV.ibin (v:=.bool (((Sl.len x5:Int):Int) == 0)) rfl rfl rfl) (Zt u39 ?_))
 exact GL.jump0 (fun _ _ h=>h) () rfl ⟨(by rw [u39]; rfl),rfl,rfl,trivial⟩
 refine Zk u39 (Zk u39 (Zn u39 ?_))
 exact GL.jump0 (fun _ _ h=>h) () rfl ⟨(by rw [u39]; rfl),rfl,rfl,trivial⟩
 refine Za ?_
 exact Yj I3 (r37 && (((Sl.len x5:Int):Int) == 0)) h
 refine Zo (Zi (.bool ((x11:Int) == 3)) (Za (GL.nil (Yd h (fun u40 h=>?_) fun u40 h=>?_))))
 refine GC.region (Yl h fun x41 h=>?_)
 refine Zm ?_
 obtain ⟨J44,h,hR45⟩:=h
 refine GL.cut (α:=Bool) 4 J44 (fun b43=>[(56,.bool b43),(2,pv (some (b1,0))),(3,pv (some (b3,0))),(5,.int .i64 (Sl.len x5:Int))]) ?_ ?_
 rcases h.em with ⟨u46,h⟩ | ⟨u46,h⟩
 refine Zu u46 Yf ?_
 obtain ⟨x47,v48,h⟩:=h
 refine Zu u46 (Yo v48) (Zu u46 (OV.sbin (a:=x47) (b:=([]:Str)) (v:=.bool (x47 == ([]:Str))) rfl rfl rfl) (Zt u46 ?_))
 exact Yj I3 (x47 == ([]:Str)) h
 refine Zk u46 (Zk u46 (Zk u46 (Zn u46 ?_)))
 exact Yj I3 false h
 intro b43 H49 h
 replace h:=hR45 b43 H49 h
 refine Zm (GL.cut0 3 [(60,.bool (b43 && (((Sl.len x5:Int):Int) == 0))),(2,pv (some (b1,0))),(3,pv (some (b3,0)))] ?_ ?_)
 rcases Bool.eq_false_or_eq_true b43 with u50 | u50
 refine Zu u50 Ym (Zu u50 (OV.ibin (v:=.bool (((Sl.len x5:Int):Int) == 0)) rfl rfl rfl) (Zt u50 ?_))
 exact GL.jump0 (fun _ _ h=>h) () rfl ⟨(by rw [u50]; rfl),rfl,rfl,trivial⟩
 refine Zk u50 (Zk u50 (Zn u50 ?_))
 exact GL.jump0 (fun _ _ h=>h) () rfl ⟨(by rw [u50]; rfl),rfl,rfl,trivial⟩
 refine Za ?_
 exact Yj I3 (b43 && (((Sl.len x5:Int):Int) == 0)) h
 refine Zo (Zi (.bool ((x11:Int) == 4)) (Za (GL.nil (Yd h (fun u51 h=>?_) fun u51 h=>?_))))
 refine GC.region (Zf (Yl h fun x52 h=>?_))
 refine Zv (OV.sbin (a:=x52) (b:=([]:Str)) (v:=.bool (x52 == ([]:Str))) rfl rfl rfl) (Zm (GL.cut0 3 [(69,.bool ((x52 == ([]:Str)) && (((Sl.len x5:Int):Int) != 1))),(2,pv (some (b1,0))),(3,pv (some (b3,0))),(5,.int .i64 (Sl.len x5:Int))] ?_ ?_))
 rcases Zb (x52 == ([]:Str)) with u54 | u54
 refine Zu u54 Ym (Zu u54 (OV.ibin (v:=.bool (((Sl.len x5:Int):Int) != 1)) rfl rfl rfl) (Zt u54 ?_))
 exact GL.jump0 (fun _ _ h=>h) () rfl ⟨(by rw [u54]; rfl),rfl,rfl,rfl,trivial⟩
 refine Zk u54 (Zk u54 (Zn u54 ?_))
 exact GL.jump0 (fun _ _ h=>h) () rfl ⟨(by rw [u54]; rfl),rfl,rfl,rfl,trivial⟩
 refine Zm (GL.cut0 3 [(73,.bool (((x52 == ([]:Str)) && (((Sl.len x5:Int):Int) != 1)) && (decide (((Sl.len x5:Int):Int)≤16)))),(2,pv (some (b1,0))),(3,pv (some (b3,0)))] ?_ ?_)
 rcases Zb ((x52 == ([]:Str)) && (((Sl.len x5:Int):Int) != 1)) with u55 | u55
 refine Zu u55 Ym (Zu u55 (OV.ibin (v:=.bool (decide (((Sl.len x5:Int):Int)≤16))) rfl rfl rfl) (Zt u55 ?_))
 exact GL.jump0 (fun _ _ h=>h) () rfl ⟨(by rw [u55]; rfl),rfl,rfl,trivial⟩
 refine Zk u55 (Zk u55 (Zn u55 ?_))
 exact GL.jump0 (fun _ _ h=>h) () rfl ⟨(by rw [u55]; rfl),rfl,rfl,trivial⟩
 refine Za ?_
 exact Yj I3 (((x52 == ([]:Str)) && (((Sl.len x5:Int):Int) != 1)) && (decide (((Sl.len x5:Int):Int)≤16))) h
 refine Zo (Zi (.bool ((x11:Int) == 5)) (Za (GL.nil (Yd h (fun u56 h=>?_) fun u56 h=>?_))))
 refine GC.region (Zf (Yl h fun x57 h=>?_))
 refine Zc h Qhi ?_
 rintro _ H60 ⟨r59,rfl,h⟩
 refine Zm (GL.cut0 3 [(82,.bool (r59 && (decide (((Sl.len x5:Int):Int)≤8)))),(2,pv (some (b1,0))),(3,pv (some (b3,0)))] ?_ ?_)
 rcases Bool.eq_false_or_eq_true r59 with u61 | u61
 refine Zu u61 Ym (Zu u61 (OV.ibin (v:=.bool (decide (((Sl.len x5:Int):Int)≤8))) rfl rfl rfl) (Zt u61 ?_))
 exact GL.jump0 (fun _ _ h=>h) () rfl ⟨(by rw [u61]; rfl),rfl,rfl,trivial⟩
 refine Zk u61 (Zk u61 (Zn u61 ?_))
 exact GL.jump0 (fun _ _ h=>h) () rfl ⟨(by rw [u61]; rfl),rfl,rfl,trivial⟩
 refine Za ?_
 exact Yj I3 (r59 && (decide (((Sl.len x5:Int):Int)≤8))) h
 refine Zo (Zi (.bool ((x11:Int) == 6)) (Za (GL.nil (Yd h (fun u62 h=>?_) fun u62 h=>?_))))
 refine GC.seq ?_
 obtain ⟨Hs63,hle64,h⟩:=h
 refine GC.any (Hs:=Hs63) (by kernel_rfl) hle64 (Zp 1 rfl Yf ?_)
 obtain ⟨x65,v66,h⟩:=h
 refine Zp 2 rfl (Yo v66) (GA.eff 0 rfl (by kernel_rfl) (Zc h QqC ?_))
 rintro _ H69 ⟨r68,rfl,h⟩
 obtain ⟨hle67,h⟩:=h
 refine GA.back hle67 (GA.eff 3 rfl (by kernel_rfl) ?_)
 obtain ⟨x71,is72,v73,h⟩:=h
 refine Zv (OV.lookup1 (v:=.int .i64 x71) (ke:=sv) (enc:=(fun x:Int=>(.int .i64 x:Value))) (z:=0) (q:=r68) (k:=x65) (x:=x71) (b:=is72) rfl v73 rfl rfl rfl (kText rfl) rfl) ?_
 obtain ⟨hle70,h⟩:=h
 refine GA.back hle70 (Zp 4 rfl Ya (GA.done (by kernel_rfl) (GL.nil (GC.region (Yl h fun x74 h=>?_)))))
 refine Zv (OV.not rfl) (Zm (GL.cut0 3 [(94,.bool ((!x74) && (decide ((x71:Int) > 0)))),(2,pv (some (b1,0))),(3,pv (some (b3,0))),(5,.int .i64 (Sl.len x5:Int)),(8,.int .i64 x71)] ?_ ?_))
 rcases Zb (!x74) with u76 | u76
 refine Zu u76 Ym (Zu u76 (OV.ibin (v:=.bool (decide ((x71:Int) > 0))) rfl rfl rfl) (Zt u76 ?_))
 exact GL.jump0 (fun _ _ h=>h) () rfl ⟨(by rw [u76]; rfl),rfl,rfl,rfl,rfl,trivial⟩
 refine Zk u76 (Zk u76 (Zn u76 ?_))
 exact GL.jump0 (fun _ _ h=>h) () rfl ⟨(by rw [u76]; rfl),rfl,rfl,rfl,rfl,trivial⟩
 refine Zm (GL.cut0 4 [(99,.bool (((!x74) && (decide ((x71:Int) > 0))) && ((x71:Int) == (Sl.len x5:Int)))),(2,pv (some (b1,0))),(3,pv (some (b3,0)))] ?_ ?_)
 rcases Zb ((!x74) && (decide ((x71:Int) > 0))) with u77 | u77
 refine Zu u77 Ym (Zu u77 Ym (Zu u77 (OV.ibin (v:=.bool ((x71:Int) == (Sl.len x5:Int))) rfl rfl rfl) (Zt u77 ?_)))
 exact GL.jump0 (fun _ _ h=>h) () rfl ⟨(by rw [u77]; rfl),rfl,rfl,trivial⟩
 refine Zk u77 (Zk u77 (Zk u77 (Zn u77 ?_)))
 exact GL.jump0 (fun _ _ h=>h) () rfl ⟨(by rw [u77]; rfl),rfl,rfl,trivial⟩
 refine Za ?_
 exact Yj I3 (((!x74) && (decide ((x71:Int) > 0))) && ((x71:Int) == (Sl.len x5:Int))) h
 refine Zo (Zi (.bool ((x11:Int) == 7)) (Za (GL.nil (Yd h (fun u78 h=>?_) fun u78 h=>?_))))
 refine GC.region (Yl h fun x79 h=>?_)
 refine Zv (OV.not rfl) (Zm ?_)
 obtain ⟨J82,h,hR83⟩:=h
 refine GL.cut (α:=Bool) 4 J82 (fun b81=>[(108,.bool b81),(2,pv (some (b1,0))),(3,pv (some (b3,0))),(5,.int .i64 (Sl.len x5:Int))]) ?_ ?_
 rcases h.em with ⟨u84,h⟩ | ⟨u84,h⟩
 refine Zu u84 Yf ?_
 obtain ⟨x85,v86,h⟩:=h
 refine Zu u84 (Yo v86) (GL.call h (Yt u84) rfl QbC (vs:=[sv x85]) rfl ?_)
 rintro _ H88 ⟨r87,rfl,h⟩
 refine Zt u84 ?_
 exact Yj I3 r87 h
 refine Zk u84 (Zk u84 (Zk u84 (Zn u84 ?_)))
 exact Yj I3 false h
 intro b81 H89 h
 replace h:=hR83 b81 H89 h
 refine Zm (GL.cut0 3 [(112,.bool (b81 && (((Sl.len x5:Int):Int) == 1))),(2,pv (some (b1,0))),(3,pv (some (b3,0)))] ?_ ?_)
 rcases Bool.eq_false_or_eq_true b81 with u90 | u90
 refine Zu u90 Ym (Zu u90 (OV.ibin (v:=.bool (((Sl.len x5:Int):Int) == 1)) rfl rfl rfl) (Zt u90 ?_))
 exact GL.jump0 (fun _ _ h=>h) () rfl ⟨(by rw [u90]; rfl),rfl,rfl,trivial⟩
 refine Zk u90 (Zk u90 (Zn u90 ?_))
 exact GL.jump0 (fun _ _ h=>h) () rfl ⟨(by rw [u90]; rfl),rfl,rfl,trivial⟩
 refine Za ?_
 exact Yj I3 (b81 && (((Sl.len x5:Int):Int) == 1)) h
 refine Zo (Zi (.bool ((x11:Int) == 8)) (Za (GL.nil (Yd h (fun u91 h=>?_) fun u91 h=>?_))))
 refine GC.region (Yl h fun x92 h=>?_)
 refine Zv (OV.not rfl) (Zm ?_)
 obtain ⟨J95,h,hR96⟩:=h
 refine GL.cut (α:=Bool) 4 J95 (fun b94=>[(121,.bool b94),(2,pv (some (b1,0))),(3,pv (some (b3,0))),(5,.int .i64 (Sl.len x5:Int))]) ?_ ?_
 rcases h.em with ⟨u97,h⟩ | ⟨u97,h⟩
 refine Zu u97 Yf ?_
 obtain ⟨x98,v99,h⟩:=h
 refine Zu u97 (Yo v99) (Zu u97 (OV.sbin (a:=x98) (b:=([]:Str)) (v:=.bool (x98 == ([]:Str))) rfl rfl rfl) (Zt u97 ?_))
 exact Yj I3 (x98 == ([]:Str)) h
 refine Zk u97 (Zk u97 (Zk u97 (Zn u97 ?_)))
 exact Yj I3 false h
 intro b94 H100 h
 replace h:=hR96 b94 H100 h
 refine Zm (GL.cut0 3 [(125,.bool (b94 && (((Sl.len x5:Int):Int) == 3))),(2,pv (some (b1,0))),(3,pv (some (b3,0)))] ?_ ?_)
 rcases Bool.eq_false_or_eq_true b94 with u101 | u101
 refine Zu u101 Ym (Zu u101 (OV.ibin (v:=.bool (((Sl.len x5:Int):Int) == 3)) rfl rfl rfl) (Zt u101 ?_))
 exact GL.jump0 (fun _ _ h=>h) () rfl ⟨(by rw [u101]; rfl),rfl,rfl,trivial⟩
 refine Zk u101 (Zk u101 (Zn u101 ?_))
 exact GL.jump0 (fun _ _ h=>h) () rfl ⟨(by rw [u101]; rfl),rfl,rfl,trivial⟩
 refine Za ?_
 exact Yj I3 (b94 && (((Sl.len x5:Int):Int) == 3)) h
 exact Yk I3 false h
 intro x8 H9 h
 replace h:=hR10 x8 H9 h
 refine Zo (Zm (Zm ?_))
 obtain ⟨J103,h,hR104⟩:=h
 refine GL.cut (α:=Bool) 4 J103 (fun b102=>[(131,.bool b102),(2,pv (some (b1,0))),(3,pv (some (b3,0)))]) ?_ ?_
 rcases h.em with ⟨u105,h⟩ | ⟨u105,h⟩
 refine Zu u105 Yf ?_
 obtain ⟨x106,v107,h⟩:=h
 refine Zu u105 (OV.loadT rfl rfl rfl v107) (GL.call h (Yt u105) rfl Qrp (vs:=[.agg (Qb.c x106).toArray]) rfl ?_)
 rintro _ H109 ⟨r108,rfl,h⟩
 refine Zt u105 ?_
 exact Yj I3 r108 h
 refine Zk u105 (Zk u105 (Zk u105 (Zn u105 ?_)))
 exact Yj I3 false h
 intro b102 H110 h
 replace h:=hR104 b102 H110 h
 refine Zm ?_
 obtain ⟨J112,h,hR113⟩:=h
 refine GL.cut (α:=Bool) 5 J112 (fun b111=>[(137,.bool b111)]) ?_ ?_
 rcases h.em with ⟨u114,h⟩ | ⟨u114,h⟩
 refine Zu u114 Yf ?_
 obtain ⟨x115,v116,h⟩:=h
 refine Zu u114 (Yo v116) (Zu u114 (OV.makeFunc (vs:=[]) (us:=[pv (some (b3,0))]) rfl rfl) (GL.call h (Yt u114) rfl QeI (vs:=[slv x115,.func (.func 209) (List.toArray []) (List.toArray [pv (some (b3,0))])]) rfl ?_))
 rintro _ H118 ⟨r117,rfl,h⟩
 refine Zt u114 ?_
 exact Yj I3 r117 h
 refine Zk u114 (Zk u114 (Zk u114 (Zk u114 (Zn u114 ?_))))
 exact Yj I3 false h
 intro b111 H119 h
 replace h:=hR113 b111 H119 h
 refine Za (GL.nil ?_)
 exact Y1 I3 ⟨b111,rfl,h⟩
def QmQ (C:Ctx) (p_v:Qb) (K:Str→Heap→Prop) (H:Heap):Prop:=
 nw (Qb.c p_v) (fun b1 H2=>
 ldT H2 Qb.c (b1,0) fun x3=>
 Qco C x3 (fun r5 H6=>
 ift ((r5:Int) != 0)
 (K [] H6)
 (nwB 85 5 (fun b8 H9=>
 nw ([.nilFunc]) (fun b10 H11=>
 nw ([.nilFunc]) (fun b12 H13=>
 st (b12,0) (.func (.func 210) (List.toArray []) (List.toArray [pv (some (b8,0)),pv (some (b10,0))])) (fun H14=>
 st (b10,0) (.func (.func 211) (List.toArray []) (List.toArray [pv (some (b8,0)),pv (some (b12,0))])) (fun H15=>
 ldV H15 (b10,0) fun x16=>
 ldT H15 Qb.c (b1,0) fun x18=>
 callU Tryz.prog C x16 [.agg (Qb.c x18).toArray] H15 (fun v H20=>v=.tuple #[]∧
 QU C (some (b8,0)) (fun r21 H22=>
 K r21 H22) H20)) H14) H13) H11) H9) H6)) H2) H
theorem Qqm (C p_v K H) (h:QmQ C p_v K H):Qj0 C p_v K H:=by
 refine Ye Tryz.func169 rfl Tryz.ntmps169 [(0,.agg (Qb.c p_v).toArray)] (Zo (GL.box (v:=.agg (Qb.c p_v).toArray) (cs:=Qb.c p_v) h trivial rfl rfl rfl ?_))
 intro b1 H2 h
 refine Za (GL.nil (GC.seq (Zo ?_)))
 obtain ⟨x3,v4,h⟩:=h
 refine Zv (OV.loadT rfl rfl rfl v4) (Zc h Qk7 ?_)
 rintro _ H6 ⟨r5,rfl,h⟩
 refine Zi (.bool ((r5:Int) != 0)) (GL.nil (Yd h (fun u7 h=>?_) fun u7 h=>?_))
 refine Zo (Za (GL.nil ?_))
 exact Y1 I3 ⟨[],rfl,h⟩
 refine GC.skip (Zo (GL.allocB (T:=85) (e:=5) h trivial rfl rfl rfl ?_))
 intro b8 H9 h
 refine GL.nil (Zo (GL.alloc (cs:=[.nilFunc]) h trivial rfl rfl rfl ?_))
 intro b10 H11 h
 refine GL.nil (Zo (Zv (OV.makeFunc (vs:=[]) (us:=[pv (some (b8,0)),pv (some (b10,0))]) rfl rfl) (GL.alloc (cs:=[.nilFunc]) h trivial rfl rfl rfl ?_)))
 intro b12 H13 h
 refine GL.store (p:=(b12,0)) (v:=.func (.func 210) (List.toArray []) (List.toArray [pv (some (b8,0)),pv (some (b10,0))])) h trivial rfl rfl rfl rfl ?_
 intro H14 h
 refine GL.nil (Zo (Zv (OV.makeFunc (vs:=[]) (us:=[pv (some (b8,0)),pv (some (b12,0))]) rfl rfl) (GL.store (p:=(b10,0)) (v:=.func (.func 211) (List.toArray []) (List.toArray [pv (some (b8,0)),pv (some (b12,0))])) h trivial rfl rfl rfl rfl ?_)))
 intro H15 h
 refine GL.nil (Zo (Yl h fun x16 h=>?_))
 obtain ⟨x18,v19,h⟩:=h
 refine Zv (OV.loadT rfl rfl rfl v19) (GL.callU (xv:=x16) (vs:=[.agg (Qb.c x18).toArray]) h trivial rfl rfl rfl ?_)
 rintro _ H20 ⟨rfl,h⟩
 refine GL.nil (Zo (Zc h QeO ?_))
 rintro _ H22 ⟨r21,rfl,h⟩
 refine Za (GL.nil ?_)
 exact Y1 I3 ⟨r21,rfl,h⟩
def Qg0 (C:Ctx) (p_w:Option (Nat×Nat)) (p_e:Qa) (K:Heap→Prop) (H:Heap):Prop:=
 nw (Qa.c p_e) (fun b1 H2=>
 ldS H2 ((b1,0).1,(b1,0).2+3) fun x3=>
 Qfm C x3 (fun r5 H6=>
 ift r5
 (dr H6 fun Hs8=>
 nck p_w fun p10=>
 ldS Hs8 ((b1,0).1,(b1,0).2+3) fun x12=>
 Qj C (some (p10.1,p10.2+0)) x12 (fun r15 r16 H17=>
 Heap.le Hs8 H17∧
 ldL H17 ((b1,0).1,(b1,0).2+8) fun x18=>
 QF C p_w x18 (.func (.func 93) (List.toArray [pv p_w]) (List.toArray []):Value) (fun H20=>
 K H20) H17) H6)
 (ldL H6 ((b1,0).1,(b1,0).2+8) fun x21=>
 ift (((Sl.len x21:Int):Int) == 1)
 (ldS H6 ((b1,0).1,(b1,0).2+3) fun x24=>
 nw ([sv [40],sv x24,sv [32]]) (fun b26 H27=>
 QH C p_w (Sl.of (some (b26,0)) 3 3) (fun H28=>
 ldL H28 ((b1,0).1,(b1,0).2+8) fun x29=>
 ixa x29 0 fun p31=>
 ldT H28 Qa.c (p31.1,p31.2+(0:Int).toNat*9) fun x36=>
 Qaj C p_w x36 (fun H38=>
 nck p_w fun p39=>
 Qo C (some (p39.1,p39.2+0)) 41 (fun r41 H42=>
 K H42) H38) H28) H27) H6)
 (nck p_w fun p43=>
 Qo C (some (p43.1,p43.2+0)) 40 (fun r45 H46=>
 ldL H46 ((b1,0).1,(b1,0).2+8) fun x47=>
 ldS H46 ((b1,0).1,(b1,0).2+3) fun x49=>
 catOk ([32]:Str) x49∧
 catOk (([32]:Str)++x49) ([32]:Str)∧
 Qa8 C p_w x47 ((([32]:Str)++x49)++([32]:Str)) (.func (.func 93) (List.toArray [pv p_w]) (List.toArray []):Value) (fun H53=>
 nck p_w fun p54=>
 Qo C (some (p54.1,p54.2+0)) 41 (fun r56 H57=>
 K H57) H53) H46) H6))) H2) H
theorem QlL (C p_w p_e K H) (h:Qg0 C p_w p_e K H):Qfo C p_w p_e K H:=by
 refine Ye Tryz.func170 rfl Tryz.ntmps170 [(0,pv p_w),(1,.agg (Qa.c p_e).toArray)] (Zo (GL.box (v:=.agg (Qa.c p_e).toArray) (cs:=Qa.c p_e) h trivial rfl rfl rfl ?_))
 intro b1 H2 h
 refine GL.nil (GC.block (Zo (Zf (Yl h fun x3 h=>?_))))
 refine Zc h Qjf ?_
 rintro _ H6 ⟨r5,rfl,h⟩
 refine Za (GL.nil (Yd h (fun u7 h=>?_) fun u7 h=>?_))
 refine GC.seq ?_
 obtain ⟨Hs8,hle9,h⟩:=h
 refine GC.any (Hs:=Hs8) (by kernel_rfl) hle9 (Zp 0 rfl Ym ?_)
 obtain ⟨p10,hp11,h⟩:=h
 refine Zp 1 rfl (OV.nilCheck (q:=p_w) rfl hp11) (Zp 2 rfl Yf (Zp 3 rfl Yf ?_))
 obtain ⟨x12,v13,h⟩:=h
 refine Zp 4 rfl (Yo v13) (GA.eff 5 rfl (by kernel_rfl) (Zc h Qm ?_))
 rintro _ H17 ⟨r15,r16,rfl,h⟩
 obtain ⟨hle14,h⟩:=h
 refine GA.back hle14 (GA.done (by kernel_rfl) (GL.nil (GC.region (Zm (Zf (Yl h fun x18 h=>?_))))))
 refine Zm (Zv (OV.makeFunc (vs:=[pv p_w]) (us:=[]) rfl rfl) (Zc h Q2 ?_))
 rintro _ H20 ⟨rfl,h⟩
 exact GL.ends (fun _ _ hf hs=>QC rfl hf hs ⟨rfl,h⟩)
 refine Zo (Zf (Yl h fun x21 h=>?_))
 refine Zq (Zi (.bool (((Sl.len x21:Int):Int) == 1)) (Za (GL.nil (Yd h (fun u23 h=>?_) fun u23 h=>?_))))
 refine Zo (Zm (Zf (Yl h fun x24 h=>?_)))
 refine GL.buildSlice (cs:=[sv [40],sv x24,sv [32]]) h trivial rfl (vs:=[(0,sv [40]),(1,sv x24),(2,sv [32])]) rfl ⟨9,fun _=>by kernel_rfl⟩ ?_
 intro b26 H27 h
 refine Zc h QV ?_
 rintro _ H28 ⟨rfl,h⟩
 refine GL.nil (Zo (Zm (Zf (Yl h fun x29 h=>?_))))
 refine Yx h fun p31 h=>?_
 obtain ⟨x36,v37,h⟩:=h
 refine Zv (OV.loadT rfl rfl rfl v37) (Zc h Qaa ?_)
 rintro _ H38 ⟨rfl,h⟩
 refine GL.nil (GC.region (Zm ?_))
 obtain ⟨p39,hp40,h⟩:=h
 refine Zv (OV.nilCheck (q:=p_w) rfl hp40) (Zf (Zc h Qq ?_))
 rintro _ H42 ⟨r41,rfl,h⟩
 exact GL.ends (fun _ _ hf hs=>QC rfl hf hs ⟨rfl,h⟩)
 refine Zo (Zm ?_)
 obtain ⟨p43,hp44,h⟩:=h
 refine Zv (OV.nilCheck (q:=p_w) rfl hp44) (Zf (Zc h Qq ?_))
 rintro _ H46 ⟨r45,rfl,h⟩
 refine GL.nil (Zo (Zm (Zf (Yl h fun x47 h=>?_))))
 refine Zf (Yl h fun x49 h=>?_)
 obtain ⟨hl51,h⟩:=h
 refine Zv (OV.cat (a:=([32]:Str)) (b:=x49) rfl rfl hl51) ?_
 obtain ⟨hl52,h⟩:=h
 refine Zv (OV.cat (a:=(([32]:Str)++x49)) (b:=([32]:Str)) rfl rfl hl52) (Zm (Zv (OV.makeFunc (vs:=[pv p_w]) (us:=[]) rfl rfl) (Zc h Qf1 ?_)))
 rintro _ H53 ⟨rfl,h⟩
 refine GL.nil (GC.region (Zm ?_))
 obtain ⟨p54,hp55,h⟩:=h
 refine Zv (OV.nilCheck (q:=p_w) rfl hp55) (Zf (Zc h Qq ?_))
 rintro _ H57 ⟨r56,rfl,h⟩
 exact GL.ends (fun _ _ hf hs=>QC rfl hf hs ⟨rfl,h⟩)
def Qgr (C:Ctx) (p_w:Option (Nat×Nat)) (p_e:Qa) (K:Heap→Prop) (H:Heap):Prop:=
 nw (Qa.c p_e) (fun b1 H2=>
 ldL H2 ((b1,0).1,(b1,0).2+8) fun x3=>
 ixa x3 0 fun p5=>
 ldT H2 Qa.c (p5.1,p5.2+(0:Int).toNat*9) fun x10=>
 nw (Qa.c Qa.zero) (fun b12 H13=>
 stT (b12,0) (Qa.c x10) (fun H14=>
 jn (α:=Unit) (fun x16 H17=>
 ldS H17 ((b1,0).1,(b1,0).2+3) fun x51=>
 nw ([sv [46],sv x51]) (fun b53 H54=>
 QH C p_w (Sl.of (some (b53,0)) 2 2) (fun H55=>
 K H55) H54) H17)
 (fun J15=>ldI H14 .u8 ((b12,0).1,(b12,0).2+0) fun x19=>
 jn (α:=Bool) (fun b21 H27=>
 jn (α:=Bool) (fun b28 H43=>
 ift b28
 (ldL H43 ((b1,0).1,(b1,0).2+8) fun x45=>
 QF C p_w x45 (.func (.func 93) (List.toArray [pv p_w]) (List.toArray []):Value) (fun H47=>
 J15 () H47) H43)
 (ldT H43 Qa.c (b12,0) fun x48=>
 Qaj C p_w x48 (fun H50=>
 J15 () H50) H43))
 (fun J29=>ift b21
 (J29 true H27)
 (ldI H27 .u8 ((b12,0).1,(b12,0).2+0) fun x32=>
 jn (α:=Bool) (fun b34 H42=>
 J29 b34 H42)
 (fun J35=>ift ((x32:Int) == 6)
 (ldS H27 ((b12,0).1,(b12,0).2+3) fun x38=>
 Qfm C x38 (fun r40 H41=>
 J35 r40 H41) H27)
 (J35 false H27)))))
 (fun J22=>ift ((x19:Int) == 1)
 (J22 true H14)
 (ldI H14 .u8 ((b12,0).1,(b12,0).2+0) fun x25=>
 J22 ((x25:Int) == 5) H14)))) H13) H2) H
theorem QkI (C p_w p_e K H) (h:Qgr C p_w p_e K H):QeY C p_w p_e K H:=by
 refine Ye Tryz.func171 rfl Tryz.ntmps171 [(0,pv p_w),(1,.agg (Qa.c p_e).toArray)] (Zo (GL.box (v:=.agg (Qa.c p_e).toArray) (cs:=Qa.c p_e) h trivial rfl rfl rfl ?_))
 intro b1 H2 h
 refine GL.nil (Zo (Zf (Yl h fun x3 h=>?_)))
 refine Yx h fun p5 h=>?_
 obtain ⟨x10,v11,h⟩:=h
 refine Zv (OV.loadT rfl rfl rfl v11) (GL.alloc (cs:=Qa.c Qa.zero) h trivial rfl rfl rfl ?_)
 intro b12 H13 h
 refine GL.storeT (p:=(b12,0)) (vs:=Qa.c x10) h trivial rfl rfl rfl rfl ?_
 intro H14 h
 refine GL.nil ?_
 obtain ⟨J15,h,hR18⟩:=h
 refine GC.join (α:=Unit) J15 (fun _=>[(0,pv p_w),(3,pv (some (b1,0)))]) ?_ ?_
 refine Zo (Zf (Yl h fun x19 h=>?_))
 refine Zi (.bool ((x19:Int) == 1)) (Zm ?_)
 obtain ⟨J22,h,hR23⟩:=h
 refine GL.cut (α:=Bool) 4 J22 (fun b21=>[(16,.bool b21),(0,pv p_w),(3,pv (some (b1,0))),(4,pv (some (b12,0)))]) ?_ ?_
 rcases h.em with ⟨u24,h⟩ | ⟨u24,h⟩
 refine Zk u24 (Zk u24 (Zk u24 (Zt u24 ?_)))
 exact Yj I3 true h
 refine Zu u24 Yf ?_
 obtain ⟨x25,v26,h⟩:=h
 refine Zu u24 (Yo v26) (Zu u24 (OV.ibin (v:=.bool ((x25:Int) == 5)) rfl rfl rfl) (Zn u24 ?_))
 exact Yj I3 ((x25:Int) == 5) h
 intro b21 H27 h
 replace h:=hR23 b21 H27 h
 refine Zm ?_
 obtain ⟨J29,h,hR30⟩:=h
 refine GL.cut (α:=Bool) 9 J29 (fun b28=>[(26,.bool b28),(0,pv p_w),(3,pv (some (b1,0))),(4,pv (some (b12,0)))]) ?_ ?_
 rcases h.em with ⟨u31,h⟩ | ⟨u31,h⟩
 refine Zk u31 (Zk u31 (Zk u31 (Zk u31 (GL.skip ⟨_,rfl,.inr rfl⟩ rfl (GL.skip ⟨_,rfl,.inr rfl⟩ rfl (GL.skip ⟨_,rfl,.inr rfl⟩ rfl (Zk u31 (Zt u31 ?_))))))))
 exact Yj I3 true h
 refine Zu u31 Yf ?_
 obtain ⟨x32,v33,h⟩:=h
 refine Zu u31 (Yo v33) (Zu u31 (OV.ibin (v:=.bool ((x32:Int) == 6)) rfl rfl rfl) (Zu u31 Ym ?_))
 obtain ⟨J35,h,hR36⟩:=h
 refine GL.cut (α:=Bool) 4 J35 (fun b34=>[(25,.bool b34),(0,pv p_w),(3,pv (some (b1,0))),(4,pv (some (b12,0))),(17,.bool b21)]) ?_ ?_
 rcases h.em with ⟨u37,h⟩ | ⟨u37,h⟩
 refine Zu u37 Yf ?_
 obtain ⟨x38,v39,h⟩:=h
 refine Zu u37 (Yo v39) (GL.call h (Yt u37) rfl Qjf (vs:=[sv x38]) rfl ?_)
 rintro _ H41 ⟨r40,rfl,h⟩
 refine Zu u31 (OV.pickT rfl u37 rfl) ?_
 exact Yj I3 r40 h
 refine Zk u37 (Zk u37 (Zk u37 (Zu u31 (OV.pickF rfl u37 rfl) ?_)))
 exact Yj I3 false h
 intro b34 H42 h
 replace h:=hR36 b34 H42 h
 refine Zn u31 ?_
 exact Yj I3 b34 h
 intro b28 H43 h
 replace h:=hR30 b28 H43 h
 refine GL.nil (Yd h (fun u44 h=>?_) fun u44 h=>?_)
 refine GC.region (Zm (Zf (Yl h fun x45 h=>?_)))
 refine Zm (Zv (OV.makeFunc (vs:=[pv p_w]) (us:=[]) rfl rfl) (Zc h Q2 ?_))
 rintro _ H47 ⟨rfl,h⟩
 exact Yj I3 () h
 refine GC.region (Zm ?_)
 obtain ⟨x48,v49,h⟩:=h
 refine Zv (OV.loadT rfl rfl rfl v49) (Zc h Qaa ?_)
 rintro _ H50 ⟨rfl,h⟩
 exact Yj I3 () h
 intro x16 H17 h
 replace h:=hR18 x16 H17 h
 refine GC.region (Zm (Zf (Yl h fun x51 h=>?_)))
 refine GL.buildSlice (cs:=[sv [46],sv x51]) h trivial rfl (vs:=[(0,sv [46]),(1,sv x51)]) rfl ⟨9,fun _=>by kernel_rfl⟩ ?_
 intro b53 H54 h
 refine Zc h QV ?_
 rintro _ H55 ⟨rfl,h⟩
 exact GL.ends (fun _ _ hf hs=>QC rfl hf hs ⟨rfl,h⟩)
def Qjj (C:Ctx) (p_a:Sl) (p_b:Sl) (K:Bool→Heap→Prop) (H:Heap):Prop:=
 ift (((Sl.len p_a:Int):Int) != (Sl.len p_b:Int))
 (K false H)
 (lp (α:=Int) 0 H (fun x2 J3 H4=>
 ift (decide ((x2:Int) < (Sl.len p_a:Int)))
 (dr H4 fun Hs6=>
 ixa p_a x2 fun p8=>
 ldT Hs6 Qb.c (p8.1,p8.2+(x2:Int).toNat*4) fun x13=>
 ixa p_b x2 fun p15=>
 ldT Hs6 Qb.c (p15.1,p15.2+(x2:Int).toNat*4) fun x20=>
 QbY C x13 x20 (fun r23 H24=>
 Heap.le Hs6 H24∧
 ift (!r23)
 (K false H24)
 (J3 (w .i64 (x2+1)) H24)) H4)
 (K true H4)))
theorem QnF (C p_a p_b K H) (h:Qjj C p_a p_b K H):QgJ C p_a p_b K H:=by
 refine Ye Tryz.func172 rfl Tryz.ntmps172 [(0,slv p_a),(1,slv p_b)] (Zo (Za (GL.nil (GC.seq (Zo (Zm (Zq (Zm (Zq (Zi (.bool (((Sl.len p_a:Int):Int) != (Sl.len p_b:Int))) (GL.nil (Yd h (fun u1 h=>?_) fun u1 h=>?_))))))))))))
 refine Zo (Za (GL.nil ?_))
 exact Y1 I3 ⟨false,rfl,h⟩
 refine GC.skip (GC.seq (Zo (Za (GL.nil (GC.block (Yp h (fun x2=>[(5,.int .i64 x2),(0,slv p_a),(1,slv p_b)]) ?_))))))
 intro x2 H4 J3 h
 refine GC.seq (Zo (Zm (Zm (Zq (Zi (.bool (decide ((x2:Int) < (Sl.len p_a:Int)))) (GL.nil (Yd h (fun u5 h=>?_) fun u5 h=>?_)))))))
 refine GC.skip (GC.seq (GC.block (GC.seq ?_)))
 obtain ⟨Hs6,hle7,h⟩:=h
 refine GC.any (Hs:=Hs6) (by kernel_rfl) hle7 (Zp 0 rfl Ym (Zp 1 rfl Ym ?_))
 obtain ⟨p8,ha9,hb10,u11,hd12,h⟩:=h
 refine Zp 2 rfl (OV.indexAddr rfl rfl rfl rfl ha9 hb10 u11 hd12) ?_
 obtain ⟨x13,v14,h⟩:=h
 refine Zp 3 rfl (OV.loadT rfl rfl rfl v14) (Zp 4 rfl Ym (Zp 5 rfl Ym ?_))
 obtain ⟨p15,ha16,hb17,u18,hd19,h⟩:=h
 refine Zp 6 rfl (OV.indexAddr rfl rfl rfl rfl ha16 hb17 u18 hd19) ?_
 obtain ⟨x20,v21,h⟩:=h
 refine Zp 7 rfl (OV.loadT rfl rfl rfl v21) (GA.eff 8 rfl (by kernel_rfl) (Zc h Qmi ?_))
 rintro _ H24 ⟨r23,rfl,h⟩
 obtain ⟨hle22,h⟩:=h
 refine GA.back hle22 (Zp 9 rfl (OV.not rfl) (GA.done (by kernel_rfl) (GL.nil (Yd h (fun u25 h=>?_) fun u25 h=>?_))))
 refine Zo (Za (GL.nil ?_))
 exact Y1 I3 ⟨false,rfl,h⟩
 refine GC.skip_to (fun _ _ h=>h) (GC.region (Zm (Zi (.int .i64 (w .i64 (x2+1))) (Za ?_))))
 exact Yj I3 (w .i64 (x2+1)) h
 refine GC.exit_to (fun _ _ h=>h) (Zo (Za (GL.nil ?_)))
 exact Y1 I3 ⟨true,rfl,h⟩
def Qds (C:Ctx) (p_s:Sl) (p_v:Str) (K:Int→Heap→Prop) (H:Heap):Prop:=
 lp (α:=Int) 0 H (fun x1 J2 H3=>
 ift (decide ((x1:Int) < (Sl.len p_s:Int)))
 (ixa p_s x1 fun p5=>
 ldS H3 (p5.1,p5.2+(x1:Int).toNat*1) fun x10=>
 ift (p_v == x10)
 (K x1 H3)
 (J2 (w .i64 (x1+1)) H3))
 (K (-1) H3))
theorem Qgb (C p_s p_v K H) (h:Qds C p_s p_v K H):QdL C p_s p_v K H:=by
 refine Ye Tryz.func173 rfl Tryz.ntmps173 [(0,slv p_s),(1,sv p_v)] (Zo (Za (GL.nil (GC.seq (Zo (Zm (Zq (Zm (GL.nil (GC.block (Yp h (fun x1=>[(8,.int .i64 x1),(0,slv p_s),(1,sv p_v),(7,.int .i64 (Sl.len p_s:Int))]) ?_)))))))))))
 intro x1 H3 J2 h
 refine Zo (Zi (.bool (decide ((x1:Int) < (Sl.len p_s:Int)))) (GL.nil (GC.seq (Yd h (fun u4 h=>?_) fun u4 h=>?_))))
 refine GC.skip (GC.seq (GC.block (Zo (Zm (Za (GL.nil (Zo (Zm (Zm (Zm (Yx h fun p5 h=>?_)))))))))))
 refine Yl h fun x10 h=>?_
 refine Zv (OV.sbin (a:=p_v) (b:=x10) (v:=.bool (p_v == x10)) rfl rfl rfl) (GL.nil (Yd h (fun u12 h=>?_) fun u12 h=>?_))
 refine Zo (Zm (Za (GL.nil ?_)))
 exact Y1 I3 ⟨x1,rfl,h⟩
 refine GC.skip_to (fun _ _ h=>h) (GC.region (Zi (.int .i64 (w .i64 (x1+1))) (Zm ?_)))
 exact Yj I3 (w .i64 (x1+1)) h
 refine GC.exit_to (fun _ _ h=>h) (Zo (Za (GL.nil ?_)))
 exact Y1 I3 ⟨(-1),rfl,h⟩
def QgY (C:Ctx) (p_w:Option (Nat×Nat)) (p_l:Sl) (p_between:Str) (p_write:Value) (K:Heap→Prop) (H:Heap):Prop:=
 lp (α:=Int) 0 H (fun x1 J2 H3=>
 ift (decide ((x1:Int) < (Sl.len p_l:Int)))
 (ixa p_l x1 fun p5=>
 ldS H3 (p5.1,p5.2+(x1:Int).toNat*1) fun x10=>
 jn (α:=Unit) (fun x13 H14=>
 callU Tryz.prog C p_write [sv x10] H14 (fun v H22=>v=.tuple #[]∧
 J2 (w .i64 (x1+1)) H22))
 (fun J12=>ift (decide ((x1:Int) > 0))
 (nck p_w fun p17=>
 Qj C (some (p17.1,p17.2+0)) p_between (fun r19 r20 H21=>
 J12 () H21) H3)
 (J12 () H3)))
 (K H3))
theorem QlJ (C p_w p_l p_between p_write K H) (h:QgY C p_w p_l p_between p_write K H):Qhd C p_w p_l p_between p_write K H:=by
 refine Ye Tryz.func174 rfl Tryz.ntmps174 [(0,pv p_w),(1,slv p_l),(2,sv p_between),(3,p_write)] (Zo (Zm (Zq (Zm (GL.nil (GC.block (Yp h (fun x1=>[(12,.int .i64 x1),(0,pv p_w),(2,sv p_between),(3,p_write),(10,slv p_l),(11,.int .i64 (Sl.len p_l:Int))]) ?_)))))))
 intro x1 H3 J2 h
 refine Zo (Zi (.bool (decide ((x1:Int) < (Sl.len p_l:Int)))) (GL.nil (GC.seq (Yd h (fun u4 h=>?_) fun u4 h=>?_))))
 refine GC.skip (GC.seq (GC.block (Zo (Zm (Yx h fun p5 h=>?_)))))
 refine Yl h fun x10 h=>?_
 refine Za (Za (GL.nil ?_))
 obtain ⟨J12,h,hR15⟩:=h
 refine GC.join (α:=Unit) J12 (fun _=>[(0,pv p_w),(2,sv p_between),(3,p_write),(9,sv x10),(10,slv p_l),(11,.int .i64 (Sl.len p_l:Int)),(12,.int .i64 x1)]) ?_ ?_
 refine Zo (Zm (Zi (.bool (decide ((x1:Int) > 0))) (GL.nil (Yd h (fun u16 h=>?_) fun u16 h=>?_))))
 refine GC.region (Zm ?_)
 obtain ⟨p17,hp18,h⟩:=h
 refine Zv (OV.nilCheck (q:=p_w) rfl hp18) (Zf (Zm (Zc h Qm ?_)))
 rintro _ H21 ⟨r19,r20,rfl,h⟩
 exact Yj I3 () h
 exact Yk I3 () h
 intro x13 H14 h
 replace h:=hR15 x13 H14 h
 refine GC.region (Zm (Zm (GL.callU (xv:=p_write) (vs:=[sv x10]) h trivial rfl rfl rfl ?_)))
 rintro _ H22 ⟨rfl,h⟩
 refine GL.nil_to (fun _ _ h=>h) (GC.region (Zi (.int .i64 (w .i64 (x1+1))) (Zm ?_)))
 exact Yj I3 (w .i64 (x1+1)) h
 exact GC.exit_ends (fun _ _ hf hs=>QC rfl hf hs ⟨rfl,h⟩)
def QeT (C:Ctx) (p_w:Option (Nat×Nat)) (p_l:Sl) (p_between:Str) (p_write:Value) (K:Heap→Prop) (H:Heap):Prop:=
 lp (α:=Int) 0 H (fun x1 J2 H3=>
 ift (decide ((x1:Int) < (Sl.len p_l:Int)))
 (ixa p_l x1 fun p5=>
 ldT H3 Qd.c (p5.1,p5.2+(x1:Int).toNat*3) fun x10=>
 nw (Qd.c Qd.zero) (fun b12 H13=>
 stT (b12,0) (Qd.c x10) (fun H14=>
 jn (α:=Unit) (fun x16 H17=>
 ldT H17 Qd.c (b12,0) fun x25=>
 callU Tryz.prog C p_write [.agg (Qd.c x25).toArray] H17 (fun v H27=>v=.tuple #[]∧
 J2 (w .i64 (x1+1)) H27))
 (fun J15=>ift (decide ((x1:Int) > 0))
 (nck p_w fun p20=>
 Qj C (some (p20.1,p20.2+0)) p_between (fun r22 r23 H24=>
 J15 () H24) H14)
 (J15 () H14))) H13) H3)
 (K H3))
theorem QhB (C p_w p_l p_between p_write K H) (h:QeT C p_w p_l p_between p_write K H):QcN C p_w p_l p_between p_write K H:=by
 refine Ye Tryz.func175 rfl Tryz.ntmps175 [(0,pv p_w),(1,slv p_l),(2,sv p_between),(3,p_write)] (Zo (Zm (Zq (Zm (GL.nil (GC.block (Yp h (fun x1=>[(12,.int .i64 x1),(0,pv p_w),(2,sv p_between),(3,p_write),(10,slv p_l),(11,.int .i64 (Sl.len p_l:Int))]) ?_)))))))
 intro x1 H3 J2 h
 refine Zo (Zi (.bool (decide ((x1:Int) < (Sl.len p_l:Int)))) (GL.nil (GC.seq (Yd h (fun u4 h=>?_) fun u4 h=>?_))))
 refine GC.skip (GC.seq (GC.block (Zo (Zm (Yx h fun p5 h=>?_)))))
 obtain ⟨x10,v11,h⟩:=h
 refine Zv (OV.loadT rfl rfl rfl v11) (GL.alloc (cs:=Qd.c Qd.zero) h trivial rfl rfl rfl ?_)
 intro b12 H13 h
 refine Za (GL.storeT (p:=(b12,0)) (vs:=Qd.c x10) h trivial rfl rfl rfl rfl ?_)
 intro H14 h
 refine GL.nil ?_
 obtain ⟨J15,h,hR18⟩:=h
 refine GC.join (α:=Unit) J15 (fun _=>[(0,pv p_w),(2,sv p_between),(3,p_write),(9,pv (some (b12,0))),(10,slv p_l),(11,.int .i64 (Sl.len p_l:Int)),(12,.int .i64 x1)]) ?_ ?_
 refine Zo (Zm (Zi (.bool (decide ((x1:Int) > 0))) (GL.nil (Yd h (fun u19 h=>?_) fun u19 h=>?_))))
 refine GC.region (Zm ?_)
 obtain ⟨p20,hp21,h⟩:=h
 refine Zv (OV.nilCheck (q:=p_w) rfl hp21) (Zf (Zm (Zc h Qm ?_)))
 rintro _ H24 ⟨r22,r23,rfl,h⟩
 exact Yj I3 () h
 exact Yk I3 () h
 intro x16 H17 h
 replace h:=hR18 x16 H17 h
 refine GC.region (Zm ?_)
 obtain ⟨x25,v26,h⟩:=h
 refine Zv (OV.loadT rfl rfl rfl v26) (GL.callU (xv:=p_write) (vs:=[.agg (Qd.c x25).toArray]) h trivial rfl rfl rfl ?_)
 rintro _ H27 ⟨rfl,h⟩
 refine GL.nil_to (fun _ _ h=>h) (GC.region (Zi (.int .i64 (w .i64 (x1+1))) (Zm ?_)))
 exact Yj I3 (w .i64 (x1+1)) h
 exact GC.exit_ends (fun _ _ hf hs=>QC rfl hf hs ⟨rfl,h⟩)
def Qhs (C:Ctx) (p_w:Option (Nat×Nat)) (p_t:Qe) (K:Heap→Prop) (H:Heap):Prop:=
 nw (Qe.c p_t) (fun b1 H2=>
 jn (α:=Unit) (fun x4 H5=>
 ldS H5 ((b1,0).1,(b1,0).2+0) fun x20=>
 jn (α:=Bool) (fun b22 H28=>
 ift b22
 (ldL H28 ((b1,0).1,(b1,0).2+1) fun x30=>
 QcK C p_w x30 (.func (.func 176) (List.toArray [pv p_w]) (List.toArray []):Value) (fun H32=>
 K H32) H28)
 (K H28))
 (fun J23=>ift (x20 == ([116,117,112,108,101]:Str))
 (J23 true H5)
 (ldL H5 ((b1,0).1,(b1,0).2+1) fun x26=>
 J23 (decide (((Sl.len x26:Int):Int) > 0)) H5)))
 (fun J3=>ldS H2 ((b1,0).1,(b1,0).2+0) fun x7=>
 ift (!(x7 == ([116,117,112,108,101]:Str)))
 (dr H2 fun Hs10=>
 nck p_w fun p12=>
 ldS Hs10 ((b1,0).1,(b1,0).2+0) fun x14=>
 Qj C (some (p12.1,p12.2+0)) x14 (fun r17 r18 H19=>
 Heap.le Hs10 H19∧
 J3 () H19) H2)
 (J3 () H2))) H
theorem Ql7 (C p_w p_t K H) (h:Qhs C p_w p_t K H):QfP C p_w p_t K H:=by
 refine Ye Tryz.func176 rfl Tryz.ntmps176 [(0,pv p_w),(1,.agg (Qe.c p_t).toArray)] (Zo (GL.box (v:=.agg (Qe.c p_t).toArray) (cs:=Qe.c p_t) h trivial rfl rfl rfl ?_))
 intro b1 H2 h
 refine GL.nil ?_
 obtain ⟨J3,h,hR6⟩:=h
 refine GC.join (α:=Unit) J3 (fun _=>[(0,pv p_w),(3,pv (some (b1,0)))]) ?_ ?_
 refine Zo (Zf (Yl h fun x7 h=>?_))
 refine Zv (OV.sbin (a:=x7) (b:=([116,117,112,108,101]:Str)) (v:=.bool (!(x7 == ([116,117,112,108,101]:Str)))) rfl rfl rfl) (GL.nil (Yd h (fun u9 h=>?_) fun u9 h=>?_))
 obtain ⟨Hs10,hle11,h⟩:=h
 refine GC.any (Hs:=Hs10) (by kernel_rfl) hle11 (Zp 0 rfl Ym ?_)
 obtain ⟨p12,hp13,h⟩:=h
 refine Zp 1 rfl (OV.nilCheck (q:=p_w) rfl hp13) (Zp 2 rfl Yf (Zp 3 rfl Yf ?_))
 obtain ⟨x14,v15,h⟩:=h
 refine Zp 4 rfl (Yo v15) (GA.eff 5 rfl (by kernel_rfl) (Zc h Qm ?_))
 rintro _ H19 ⟨r17,r18,rfl,h⟩
 obtain ⟨hle16,h⟩:=h
 refine GA.back hle16 (GA.done (by kernel_rfl) ?_)
 exact Yj I3 () h
 exact Yk I3 () h
 intro x4 H5 h
 replace h:=hR6 x4 H5 h
 refine Zo (Zf (Yl h fun x20 h=>?_))
 refine Zv (OV.sbin (a:=x20) (b:=([116,117,112,108,101]:Str)) (v:=.bool (x20 == ([116,117,112,108,101]:Str))) rfl rfl rfl) (Zm ?_)
 obtain ⟨J23,h,hR24⟩:=h
 refine GL.cut (α:=Bool) 5 J23 (fun b22=>[(21,.bool b22),(0,pv p_w),(3,pv (some (b1,0)))]) ?_ ?_
 rcases h.em with ⟨u25,h⟩ | ⟨u25,h⟩
 refine Zk u25 (Zk u25 (Zk u25 (Zk u25 (Zt u25 ?_))))
 exact Yj I3 true h
 refine Zu u25 Yf ?_
 obtain ⟨x26,v27,h⟩:=h
 refine Zu u25 (Yo v27) (Zu u25 (OV.lenSl rfl rfl) (Zu u25 (OV.ibin (v:=.bool (decide (((Sl.len x26:Int):Int) > 0))) rfl rfl rfl) (Zn u25 ?_)))
 exact Yj I3 (decide (((Sl.len x26:Int):Int) > 0)) h
 intro b22 H28 h
 replace h:=hR24 b22 H28 h
 refine GL.nil (Yd h (fun u29 h=>?_) fun u29 h=>?_)
 refine GC.region (Zm (Zf (Yl h fun x30 h=>?_)))
 refine Zm (Zv (OV.makeFunc (vs:=[pv p_w]) (us:=[]) rfl rfl) (Zc h QhP ?_))
 rintro _ H32 ⟨rfl,h⟩
 exact GL.ends (fun _ _ hf hs=>QC rfl hf hs ⟨rfl,h⟩)
 exact GC.ends (fun _ _ hf hs=>QC rfl hf hs ⟨rfl,h⟩)
def Qee (C:Ctx) (p_w:Option (Nat×Nat)) (p_l:Sl) (p_between:Str) (p_write:Value) (K:Heap→Prop) (H:Heap):Prop:=
 lp (α:=Int) 0 H (fun x1 J2 H3=>
 ift (decide ((x1:Int) < (Sl.len p_l:Int)))
 (ixa p_l x1 fun p5=>
 ldT H3 Qa.c (p5.1,p5.2+(x1:Int).toNat*9) fun x10=>
 nw (Qa.c Qa.zero) (fun b12 H13=>
 stT (b12,0) (Qa.c x10) (fun H14=>
 jn (α:=Unit) (fun x16 H17=>
 ldT H17 Qa.c (b12,0) fun x25=>
 callU Tryz.prog C p_write [.agg (Qa.c x25).toArray] H17 (fun v H27=>v=.tuple #[]∧
 J2 (w .i64 (x1+1)) H27))
 (fun J15=>ift (decide ((x1:Int) > 0))
 (nck p_w fun p20=>
 Qj C (some (p20.1,p20.2+0)) p_between (fun r22 r23 H24=>
 J15 () H24) H14)
 (J15 () H14))) H13) H3)
 (K H3))
theorem QfW (C p_w p_l p_between p_write K H) (h:Qee C p_w p_l p_between p_write K H):Qa8 C p_w p_l p_between p_write K H:=by
 refine Ye Tryz.func177 rfl Tryz.ntmps177 [(0,pv p_w),(1,slv p_l),(2,sv p_between),(3,p_write)] (Zo (Zm (Zq (Zm (GL.nil (GC.block (Yp h (fun x1=>[(12,.int .i64 x1),(0,pv p_w),(2,sv p_between),(3,p_write),(10,slv p_l),(11,.int .i64 (Sl.len p_l:Int))]) ?_)))))))
 intro x1 H3 J2 h
 refine Zo (Zi (.bool (decide ((x1:Int) < (Sl.len p_l:Int)))) (GL.nil (GC.seq (Yd h (fun u4 h=>?_) fun u4 h=>?_))))
 refine GC.skip (GC.seq (GC.block (Zo (Zm (Yx h fun p5 h=>?_)))))
 obtain ⟨x10,v11,h⟩:=h
 refine Zv (OV.loadT rfl rfl rfl v11) (GL.alloc (cs:=Qa.c Qa.zero) h trivial rfl rfl rfl ?_)
 intro b12 H13 h
 refine Za (GL.storeT (p:=(b12,0)) (vs:=Qa.c x10) h trivial rfl rfl rfl rfl ?_)
 intro H14 h
 refine GL.nil ?_
 obtain ⟨J15,h,hR18⟩:=h
 refine GC.join (α:=Unit) J15 (fun _=>[(0,pv p_w),(2,sv p_between),(3,p_write),(9,pv (some (b12,0))),(10,slv p_l),(11,.int .i64 (Sl.len p_l:Int)),(12,.int .i64 x1)]) ?_ ?_
 refine Zo (Zm (Zi (.bool (decide ((x1:Int) > 0))) (GL.nil (Yd h (fun u19 h=>?_) fun u19 h=>?_))))
 refine GC.region (Zm ?_)
 obtain ⟨p20,hp21,h⟩:=h
 refine Zv (OV.nilCheck (q:=p_w) rfl hp21) (Zf (Zm (Zc h Qm ?_)))
 rintro _ H24 ⟨r22,r23,rfl,h⟩
 exact Yj I3 () h
 exact Yk I3 () h
 intro x16 H17 h
 replace h:=hR18 x16 H17 h
 refine GC.region (Zm ?_)
 obtain ⟨x25,v26,h⟩:=h
 refine Zv (OV.loadT rfl rfl rfl v26) (GL.callU (xv:=p_write) (vs:=[.agg (Qa.c x25).toArray]) h trivial rfl rfl rfl ?_)
 rintro _ H27 ⟨rfl,h⟩
 refine GL.nil_to (fun _ _ h=>h) (GC.region (Zi (.int .i64 (w .i64 (x1+1))) (Zm ?_)))
 exact Yj I3 (w .i64 (x1+1)) h
 exact GC.exit_ends (fun _ _ hf hs=>QC rfl hf hs ⟨rfl,h⟩)
def Qmz (C:Ctx) (p_v:Qb) (K:Str→Heap→Prop) (H:Heap):Prop:=
 nw (Qb.c p_v) (fun b1 H2=>
 ldT H2 Qb.c (b1,0) fun x3=>
 Qbx C x3 (fun r5 H6=>
 ift ((r5:Int) != 0)
 (K [] H6)
 (ldT H6 Qb.c (b1,0) fun x8=>
 Qe0 C x8 (fun r10 H11=>
 K r10 H11) H6)) H2) H
theorem Qp5 (C p_v K H) (h:Qmz C p_v K H):Qd2 C p_v K H:=by
 refine Ye Tryz.func179 rfl Tryz.ntmps179 [(0,.agg (Qb.c p_v).toArray)] (Zo (GL.box (v:=.agg (Qb.c p_v).toArray) (cs:=Qb.c p_v) h trivial rfl rfl rfl ?_))
 intro b1 H2 h
 refine Za (GL.nil (GC.seq (Zo ?_)))
 obtain ⟨x3,v4,h⟩:=h
 refine Zv (OV.loadT rfl rfl rfl v4) (Zc h QkZ ?_)
 rintro _ H6 ⟨r5,rfl,h⟩
 refine Zi (.bool ((r5:Int) != 0)) (GL.nil (Yd h (fun u7 h=>?_) fun u7 h=>?_))
 refine Zo (Za (GL.nil ?_))
 exact Y1 I3 ⟨[],rfl,h⟩
 refine GC.skip (Zo ?_)
 obtain ⟨x8,v9,h⟩:=h
 refine Zv (OV.loadT rfl rfl rfl v9) (Zc h Qqz ?_)
 rintro _ H11 ⟨r10,rfl,h⟩
 refine Za (GL.nil ?_)
 exact Y1 I3 ⟨r10,rfl,h⟩
def Qiw (C:Ctx) (p_s:Str) (K:Bool→Heap→Prop) (H:Heap):Prop:=
 K ((((p_s == ([110,101,103]:Str)) || (p_s == ([108,101,110]:Str))) || (p_s == ([98,105,103]:Str))) || (p_s == ([105,110,116]:Str))) H
theorem QmV (C p_s K H) (h:Qiw C p_s K H):Qcd C p_s K H:=by
 refine Ye Tryz.func180 rfl Tryz.ntmps180 [(0,sv p_s)] (Zo (Za (GL.nil (Zo (Zm (Zv (OV.sbin (a:=p_s) (b:=([110,101,103]:Str)) (v:=.bool (p_s == ([110,101,103]:Str))) rfl rfl rfl) (Zm (GL.cut0 3 [(8,.bool ((p_s == ([110,101,103]:Str)) || (p_s == ([108,101,110]:Str)))),(0,sv p_s)] ?_ ?_))))))))
 rcases Zb (p_s == ([110,101,103]:Str)) with u1 | u1
 refine Zk u1 (Zk u1 (Zt u1 ?_))
 exact GL.jump0 (fun _ _ h=>h) () rfl ⟨(by rw [u1]; rfl),rfl,trivial⟩
 refine Zu u1 Ym (Zu u1 (OV.sbin (a:=p_s) (b:=([108,101,110]:Str)) (v:=.bool (p_s == ([108,101,110]:Str))) rfl rfl rfl) (Zn u1 ?_))
 exact GL.jump0 (fun _ _ h=>h) () rfl ⟨(by rw [u1]; rfl),rfl,trivial⟩
 refine Zm (GL.cut0 3 [(12,.bool (((p_s == ([110,101,103]:Str)) || (p_s == ([108,101,110]:Str))) || (p_s == ([98,105,103]:Str)))),(0,sv p_s)] ?_ ?_)
 rcases Zb ((p_s == ([110,101,103]:Str)) || (p_s == ([108,101,110]:Str))) with u2 | u2
 refine Zk u2 (Zk u2 (Zt u2 ?_))
 exact GL.jump0 (fun _ _ h=>h) () rfl ⟨(by rw [u2]; rfl),rfl,trivial⟩
 refine Zu u2 Ym (Zu u2 (OV.sbin (a:=p_s) (b:=([98,105,103]:Str)) (v:=.bool (p_s == ([98,105,103]:Str))) rfl rfl rfl) (Zn u2 ?_))
 exact GL.jump0 (fun _ _ h=>h) () rfl ⟨(by rw [u2]; rfl),rfl,trivial⟩
 refine Zm (GL.cut0 3 [(16,.bool ((((p_s == ([110,101,103]:Str)) || (p_s == ([108,101,110]:Str))) || (p_s == ([98,105,103]:Str))) || (p_s == ([105,110,116]:Str))))] ?_ ?_)
 rcases Zb (((p_s == ([110,101,103]:Str)) || (p_s == ([108,101,110]:Str))) || (p_s == ([98,105,103]:Str))) with u3 | u3
 refine Zk u3 (Zk u3 (Zt u3 ?_))
 exact GL.jump0 (fun _ _ h=>h) () rfl ⟨(by rw [u3]; rfl),trivial⟩
 refine Zu u3 Ym (Zu u3 (OV.sbin (a:=p_s) (b:=([105,110,116]:Str)) (v:=.bool (p_s == ([105,110,116]:Str))) rfl rfl rfl) (Zn u3 ?_))
 exact GL.jump0 (fun _ _ h=>h) () rfl ⟨(by rw [u3]; rfl),trivial⟩
 refine Za (GL.nil ?_)
 exact Y1 I3 ⟨((((p_s == ([110,101,103]:Str)) || (p_s == ([108,101,110]:Str))) || (p_s == ([98,105,103]:Str))) || (p_s == ([105,110,116]:Str))),rfl,h⟩
def QiI (C:Ctx) (p_t:Qe) (K:Int→Heap→Prop) (H:Heap):Prop:=
 nw (Qe.c p_t) (fun b1 H2=>
 ldL H2 ((b1,0).1,(b1,0).2+1) fun x3=>
 Q9 C x3 (.func (.func 181) (List.toArray []) (List.toArray []):Value) (fun r5 H6=>
 K (w .i64 (1+r5)) H6) H2) H
theorem Qm5 (C p_t K H) (h:QiI C p_t K H):QbO C p_t K H:=by
 refine Ye Tryz.func181 rfl Tryz.ntmps181 [(0,.agg (Qe.c p_t).toArray)] (Zo (GL.box (v:=.agg (Qe.c p_t).toArray) (cs:=Qe.c p_t) h trivial rfl rfl rfl ?_))
 intro b1 H2 h
 refine Za (GL.nil (Zo (Zf (Yl h fun x3 h=>?_))))
 refine Zc h Qin ?_
 rintro _ H6 ⟨r5,rfl,h⟩
 refine Zi (.int .i64 (w .i64 (1+r5))) (Za (GL.nil ?_))
 exact Y1 I3 ⟨(w .i64 (1+r5)),rfl,h⟩
def Qbj (C:Ctx) (p_s:Sl) (p_f:Value) (K:Int→Heap→Prop) (H:Heap):Prop:=
 lp (α:=Int) 0 H (fun x1 J2 H3=>
 ift (decide ((x1:Int) < (Sl.len p_s:Int)))
 (ixa p_s x1 fun p5=>
 ldT H3 Qn.c (p5.1,p5.2+(x1:Int).toNat*3) fun x10=>
 callU Tryz.prog C p_f [.agg (Qn.c x10).toArray] H3 (fun v H13=>∃ (r12:Bool),v=.bool r12∧
 ift r12
 (K x1 H13)
 (J2 (w .i64 (x1+1)) H13)))
 (K (-1) H3))
theorem QdD (C p_s p_f K H) (h:Qbj C p_s p_f K H):Qbs C p_s p_f K H:=by
 refine Ye Tryz.func183 rfl Tryz.ntmps183 [(0,slv p_s),(1,p_f)] (Zo (Za (GL.nil (GC.seq (Zo (Zm (Zq (Zm (GL.nil (GC.block (Yp h (fun x1=>[(8,.int .i64 x1),(0,slv p_s),(1,p_f),(7,.int .i64 (Sl.len p_s:Int))]) ?_)))))))))))
 intro x1 H3 J2 h
 refine Zo (Zi (.bool (decide ((x1:Int) < (Sl.len p_s:Int)))) (GL.nil (GC.seq (Yd h (fun u4 h=>?_) fun u4 h=>?_))))
 refine GC.skip (GC.seq (GC.block (Zo (Zm (Za (GL.nil (Zo (Zm (Zm (Zm (Yx h fun p5 h=>?_)))))))))))
 obtain ⟨x10,v11,h⟩:=h
 refine Zv (OV.loadT rfl rfl rfl v11) (GL.callU (xv:=p_f) (vs:=[.agg (Qn.c x10).toArray]) h trivial rfl rfl rfl ?_)
 rintro _ H13 ⟨r12,rfl,h⟩
 refine GL.nil (Yd h (fun u14 h=>?_) fun u14 h=>?_)
 refine Zo (Zm (Za (GL.nil ?_)))
 exact Y1 I3 ⟨x1,rfl,h⟩
 refine GC.skip_to (fun _ _ h=>h) (GC.region (Zi (.int .i64 (w .i64 (x1+1))) (Zm ?_)))
 exact Yj I3 (w .i64 (x1+1)) h
 refine GC.exit_to (fun _ _ h=>h) (Zo (Za (GL.nil ?_)))
 exact Y1 I3 ⟨(-1),rfl,h⟩
def Qa7 (C:Ctx) (p_s:Sl) (p_f:Value) (K:Int→Heap→Prop) (H:Heap):Prop:=
 lp (α:=Int) 0 H (fun x1 J2 H3=>
 ift (decide ((x1:Int) < (Sl.len p_s:Int)))
 (ixa p_s x1 fun p5=>
 ldT H3 Qf.c (p5.1,p5.2+(x1:Int).toNat*6) fun x10=>
 callU Tryz.prog C p_f [.agg (Qf.c x10).toArray] H3 (fun v H13=>∃ (r12:Bool),v=.bool r12∧
 ift r12
 (K x1 H13)
 (J2 (w .i64 (x1+1)) H13)))
 (K (-1) H3))
theorem Qc5 (C p_s p_f K H) (h:Qa7 C p_s p_f K H):Qbe C p_s p_f K H:=by
 refine Ye Tryz.func184 rfl Tryz.ntmps184 [(0,slv p_s),(1,p_f)] (Zo (Za (GL.nil (GC.seq (Zo (Zm (Zq (Zm (GL.nil (GC.block (Yp h (fun x1=>[(8,.int .i64 x1),(0,slv p_s),(1,p_f),(7,.int .i64 (Sl.len p_s:Int))]) ?_)))))))))))
 intro x1 H3 J2 h
 refine Zo (Zi (.bool (decide ((x1:Int) < (Sl.len p_s:Int)))) (GL.nil (GC.seq (Yd h (fun u4 h=>?_) fun u4 h=>?_))))
 refine GC.skip (GC.seq (GC.block (Zo (Zm (Za (GL.nil (Zo (Zm (Zm (Zm (Yx h fun p5 h=>?_)))))))))))
 obtain ⟨x10,v11,h⟩:=h
 refine Zv (OV.loadT rfl rfl rfl v11) (GL.callU (xv:=p_f) (vs:=[.agg (Qf.c x10).toArray]) h trivial rfl rfl rfl ?_)
 rintro _ H13 ⟨r12,rfl,h⟩
 refine GL.nil (Yd h (fun u14 h=>?_) fun u14 h=>?_)
 refine Zo (Zm (Za (GL.nil ?_)))
 exact Y1 I3 ⟨x1,rfl,h⟩
 refine GC.skip_to (fun _ _ h=>h) (GC.region (Zi (.int .i64 (w .i64 (x1+1))) (Zm ?_)))
 exact Yj I3 (w .i64 (x1+1)) h
 refine GC.exit_to (fun _ _ h=>h) (Zo (Za (GL.nil ?_)))
 exact Y1 I3 ⟨(-1),rfl,h⟩
def Qb4 (C:Ctx) (p_s:Sl) (p_f:Value) (K:Bool→Heap→Prop) (H:Heap):Prop:=
 Qcz C p_s p_f (fun r1 H2=>
 K (decide ((r1:Int) ≥ 0)) H2) H
theorem QeJ (C p_s p_f K H) (h:Qb4 C p_s p_f K H):Qb7 C p_s p_f K H:=by
 refine Ye Tryz.func185 rfl Tryz.ntmps185 [(0,slv p_s),(1,p_f)] (Zo (Za (GL.nil (Zo (Zm (Zm (Zc h Qft ?_)))))))
 rintro _ H2 ⟨r1,rfl,h⟩
 refine Zi (.bool (decide ((r1:Int) ≥ 0))) (Za (GL.nil ?_))
 exact Y1 I3 ⟨(decide ((r1:Int) ≥ 0)),rfl,h⟩
def Qgp (C:Ctx) (p_x:Str) (v0:Nat×Nat) (K:Bool→Heap→Prop) (H:Heap):Prop:=
 ldV H v0 fun x1=>
 callU Tryz.prog C x1 [sv p_x] H (fun v H4=>∃ (r3:Bool),v=.bool r3∧
 K (!r3) H4)
theorem QkG (C p_x v0 K H) (h:Qgp C p_x v0 K H):QgM C p_x v0 K H:=by
 refine Ye Tryz.func186 rfl Tryz.ntmps186 [(0,sv p_x),(1,pv (some v0))] (Zo (Za (GL.nil (Zo (Yl h fun x1 h=>?_)))))
 refine Zm (GL.callU (xv:=x1) (vs:=[sv p_x]) h trivial rfl rfl rfl ?_)
 rintro _ H4 ⟨r3,rfl,h⟩
 refine Zv (OV.not rfl) (Za (GL.nil ?_))
 exact Y1 I3 ⟨(!r3),rfl,h⟩
def Qgl (C:Ctx) (p_s:Str) (p_prefix:Str) (K:Bool→Heap→Prop) (H:Heap):Prop:=
 Qak C p_s p_prefix (fun r1 H2=>
 K r1 H2) H
theorem QkC (C p_s p_prefix K H) (h:Qgl C p_s p_prefix K H):QgL C p_s p_prefix K H:=by
 refine Ye Tryz.func187 rfl Tryz.ntmps187 [(0,sv p_s),(1,sv p_prefix)] (Zo (Za (GL.nil (Zo (Zm (Zm (Zc h Qcp ?_)))))))
 rintro _ H2 ⟨r1,rfl,h⟩
 refine Za (GL.nil ?_)
 exact Y1 I3 ⟨r1,rfl,h⟩
def QaC (C:Ctx) (p_s:Sl) (p_f:Value) (K:Bool→Heap→Prop) (H:Heap):Prop:=
 Qbc C p_s p_f (fun r1 H2=>
 K (decide ((r1:Int) ≥ 0)) H2) H
theorem QcB (C p_s p_f K H) (h:QaC C p_s p_f K H):QaL C p_s p_f K H:=by
 refine Ye Tryz.func188 rfl Tryz.ntmps188 [(0,slv p_s),(1,p_f)] (Zo (Za (GL.nil (Zo (Zm (Zm (Zc h Qdg ?_)))))))
 rintro _ H2 ⟨r1,rfl,h⟩
 refine Zi (.bool (decide ((r1:Int) ≥ 0))) (Za (GL.nil ?_))
 exact Y1 I3 ⟨(decide ((r1:Int) ≥ 0)),rfl,h⟩
def QhU (C:Ctx) (p_x:Qh) (v0:Nat×Nat) (K:Bool→Heap→Prop) (H:Heap):Prop:=
 nw (Qh.c p_x) (fun b1 H2=>
 ldV H2 v0 fun x3=>
 ldT H2 Qh.c (b1,0) fun x5=>
 callU Tryz.prog C x3 [.agg (Qh.c x5).toArray] H2 (fun v H8=>∃ (r7:Bool),v=.bool r7∧
 K (!r7) H8)) H
theorem Qhw (C p_x v0 K H) (h:QhU C p_x v0 K H):Qh9 C p_x v0 K H:=by
 refine Ye Tryz.func189 rfl Tryz.ntmps189 [(0,.agg (Qh.c p_x).toArray),(1,pv (some v0))] (Zo (GL.box (v:=.agg (Qh.c p_x).toArray) (cs:=Qh.c p_x) h trivial rfl rfl rfl ?_))
 intro b1 H2 h
 refine Za (GL.nil (Zo (Yl h fun x3 h=>?_)))
 obtain ⟨x5,hr6,h⟩:=h
 refine Zv (OV.loadT rfl rfl rfl hr6) (GL.callU (xv:=x3) (vs:=[.agg (Qh.c x5).toArray]) h trivial rfl rfl rfl ?_)
 rintro _ H8 ⟨r7,rfl,h⟩
 refine Zv (OV.not rfl) (Za (GL.nil ?_))
 exact Y1 I3 ⟨(!r7),rfl,h⟩
def Qbk (C:Ctx) (p_s:Sl) (p_f:Value) (K:Int→Heap→Prop) (H:Heap):Prop:=
 lp (α:=Int) 0 H (fun x1 J2 H3=>
 ift (decide ((x1:Int) < (Sl.len p_s:Int)))
 (ixa p_s x1 fun p5=>
 ldT H3 Qi.c (p5.1,p5.2+(x1:Int).toNat*6) fun x10=>
 callU Tryz.prog C p_f [.agg (Qi.c x10).toArray] H3 (fun v H13=>∃ (r12:Bool),v=.bool r12∧
 ift r12
 (K x1 H13)
 (J2 (w .i64 (x1+1)) H13)))
 (K (-1) H3))
theorem QdE (C p_s p_f K H) (h:Qbk C p_s p_f K H):Qbt C p_s p_f K H:=by
 refine Ye Tryz.func190 rfl Tryz.ntmps190 [(0,slv p_s),(1,p_f)] (Zo (Za (GL.nil (GC.seq (Zo (Zm (Zq (Zm (GL.nil (GC.block (Yp h (fun x1=>[(8,.int .i64 x1),(0,slv p_s),(1,p_f),(7,.int .i64 (Sl.len p_s:Int))]) ?_)))))))))))
 intro x1 H3 J2 h
 refine Zo (Zi (.bool (decide ((x1:Int) < (Sl.len p_s:Int)))) (GL.nil (GC.seq (Yd h (fun u4 h=>?_) fun u4 h=>?_))))
 refine GC.skip (GC.seq (GC.block (Zo (Zm (Za (GL.nil (Zo (Zm (Zm (Zm (Yx h fun p5 h=>?_)))))))))))
 obtain ⟨x10,v11,h⟩:=h
 refine Zv (OV.loadT rfl rfl rfl v11) (GL.callU (xv:=p_f) (vs:=[.agg (Qi.c x10).toArray]) h trivial rfl rfl rfl ?_)
 rintro _ H13 ⟨r12,rfl,h⟩
 refine GL.nil (Yd h (fun u14 h=>?_) fun u14 h=>?_)
 refine Zo (Zm (Za (GL.nil ?_)))
 exact Y1 I3 ⟨x1,rfl,h⟩
 refine GC.skip_to (fun _ _ h=>h) (GC.region (Zi (.int .i64 (w .i64 (x1+1))) (Zm ?_)))
 exact Yj I3 (w .i64 (x1+1)) h
 refine GC.exit_to (fun _ _ h=>h) (Zo (Za (GL.nil ?_)))
 exact Y1 I3 ⟨(-1),rfl,h⟩
def Qaw (C:Ctx) (p_s:Sl) (p_f:Value) (K:Bool→Heap→Prop) (H:Heap):Prop:=
 QaR C p_s p_f (fun r1 H2=>
 K (decide ((r1:Int) ≥ 0)) H2) H
theorem Qch (C p_s p_f K H) (h:Qaw C p_s p_f K H):Qax C p_s p_f K H:=by
 refine Ye Tryz.func191 rfl Tryz.ntmps191 [(0,slv p_s),(1,p_f)] (Zo (Za (GL.nil (Zo (Zm (Zm (Zc h QcP ?_)))))))
 rintro _ H2 ⟨r1,rfl,h⟩
 refine Zi (.bool (decide ((r1:Int) ≥ 0))) (Za (GL.nil ?_))
 exact Y1 I3 ⟨(decide ((r1:Int) ≥ 0)),rfl,h⟩
def Qhb (C:Ctx) (p_x:Qd) (v0:Nat×Nat) (K:Bool→Heap→Prop) (H:Heap):Prop:=
 nw (Qd.c p_x) (fun b1 H2=>
 ldV H2 v0 fun x3=>
 ldT H2 Qd.c (b1,0) fun x5=>
 callU Tryz.prog C x3 [.agg (Qd.c x5).toArray] H2 (fun v H8=>∃ (r7:Bool),v=.bool r7∧
 K (!r7) H8)) H
theorem Qg4 (C p_x v0 K H) (h:Qhb C p_x v0 K H):QhF C p_x v0 K H:=by
 refine Ye Tryz.func192 rfl Tryz.ntmps192 [(0,.agg (Qd.c p_x).toArray),(1,pv (some v0))] (Zo (GL.box (v:=.agg (Qd.c p_x).toArray) (cs:=Qd.c p_x) h trivial rfl rfl rfl ?_))
 intro b1 H2 h
 refine Za (GL.nil (Zo (Yl h fun x3 h=>?_)))
 obtain ⟨x5,hr6,h⟩:=h
 refine Zv (OV.loadT rfl rfl rfl hr6) (GL.callU (xv:=x3) (vs:=[.agg (Qd.c x5).toArray]) h trivial rfl rfl rfl ?_)
 rintro _ H8 ⟨r7,rfl,h⟩
 refine Zv (OV.not rfl) (Za (GL.nil ?_))
 exact Y1 I3 ⟨(!r7),rfl,h⟩
def Qgo (C:Ctx) (p_l:Sl) (p_is:Value) (K:Bool→Heap→Prop) (H:Heap):Prop:=
 (Value.cells p_is = #[p_is])∧nw ([p_is]) (fun b1 H2=>
 QbB C p_l (.func (.func 225) (List.toArray []) (List.toArray [pv (some (b1,0))]):Value) (fun r4 H5=>
 K (!r4) H5) H2) H
theorem QkF (C p_l p_is K H) (h:Qgo C p_l p_is K H):Q7 C p_l p_is K H:=by
 refine Ye Tryz.func193 rfl Tryz.ntmps193 [(0,slv p_l),(1,p_is)] (Zo ?_)
 obtain ⟨u3,h⟩:=h
 refine GL.box (v:=p_is) (cs:=[p_is]) h trivial rfl rfl u3 ?_
 intro b1 H2 h
 refine Za (GL.nil (Zo (Zm (Zv (OV.makeFunc (vs:=[]) (us:=[pv (some (b1,0))]) rfl rfl) (Zc h QdZ ?_)))))
 rintro _ H5 ⟨r4,rfl,h⟩
 refine Zv (OV.not rfl) (Za (GL.nil ?_))
 exact Y1 I3 ⟨(!r4),rfl,h⟩
def QbS (C:Ctx) (p_s:Sl) (p_f:Value) (K:Int→Heap→Prop) (H:Heap):Prop:=
 lp (α:=Int) 0 H (fun x1 J2 H3=>
 ift (decide ((x1:Int) < (Sl.len p_s:Int)))
 (ixa p_s x1 fun p5=>
 ldT H3 Qk.c (p5.1,p5.2+(x1:Int).toNat*6) fun x10=>
 callU Tryz.prog C p_f [.agg (Qk.c x10).toArray] H3 (fun v H13=>∃ (r12:Bool),v=.bool r12∧
 ift r12
 (K x1 H13)
 (J2 (w .i64 (x1+1)) H13)))
 (K (-1) H3))
theorem Qey (C p_s p_f K H) (h:QbS C p_s p_f K H):Qb2 C p_s p_f K H:=by
 refine Ye Tryz.func194 rfl Tryz.ntmps194 [(0,slv p_s),(1,p_f)] (Zo (Za (GL.nil (GC.seq (Zo (Zm (Zq (Zm (GL.nil (GC.block (Yp h (fun x1=>[(8,.int .i64 x1),(0,slv p_s),(1,p_f),(7,.int .i64 (Sl.len p_s:Int))]) ?_)))))))))))
 intro x1 H3 J2 h
 refine Zo (Zi (.bool (decide ((x1:Int) < (Sl.len p_s:Int)))) (GL.nil (GC.seq (Yd h (fun u4 h=>?_) fun u4 h=>?_))))
 refine GC.skip (GC.seq (GC.block (Zo (Zm (Za (GL.nil (Zo (Zm (Zm (Zm (Yx h fun p5 h=>?_)))))))))))
 obtain ⟨x10,v11,h⟩:=h
 refine Zv (OV.loadT rfl rfl rfl v11) (GL.callU (xv:=p_f) (vs:=[.agg (Qk.c x10).toArray]) h trivial rfl rfl rfl ?_)
 rintro _ H13 ⟨r12,rfl,h⟩
 refine GL.nil (Yd h (fun u14 h=>?_) fun u14 h=>?_)
 refine Zo (Zm (Za (GL.nil ?_)))
 exact Y1 I3 ⟨x1,rfl,h⟩
 refine GC.skip_to (fun _ _ h=>h) (GC.region (Zi (.int .i64 (w .i64 (x1+1))) (Zm ?_)))
 exact Yj I3 (w .i64 (x1+1)) h
 refine GC.exit_to (fun _ _ h=>h) (Zo (Za (GL.nil ?_)))
 exact Y1 I3 ⟨(-1),rfl,h⟩
def Qlo (C:Ctx) (p_s:Str) (p_sep:Str) (K:Str→Str→Bool→Heap→Prop) (H:Heap):Prop:=
 Qet C p_s p_sep (fun r1 r2 r3 H4=>
 K r1 r2 r3 H4) H
theorem Qo8 (C p_s p_sep K H) (h:Qlo C p_s p_sep K H):QgA C p_s p_sep K H:=by
 refine Ye Tryz.func195 rfl Tryz.ntmps195 [(0,sv p_s),(1,sv p_sep)] (Zo (Za (Za (Za (GL.nil (Zo (Zm (Zm (Zc h QgP ?_)))))))))
 rintro _ H4 ⟨r1,r2,r3,rfl,h⟩
 refine Yv (sv r1) rfl rfl (Yv (sv r2) rfl rfl (Yv (.bool r3) rfl rfl (Za (Za (Za (GL.nil ?_))))))
 exact Y3 I3 ⟨r1,r2,r3,rfl,h⟩
def Qbu (C:Ctx) (p_s:Sl) (p_f:Value) (K:Bool→Heap→Prop) (H:Heap):Prop:=
 Qb1 C p_s p_f (fun r1 H2=>
 K (decide ((r1:Int) ≥ 0)) H2) H
theorem QdT (C p_s p_f K H) (h:Qbu C p_s p_f K H):Qbz C p_s p_f K H:=by
 refine Ye Tryz.func196 rfl Tryz.ntmps196 [(0,slv p_s),(1,p_f)] (Zo (Za (GL.nil (Zo (Zm (Zm (Zc h QeF ?_)))))))
 rintro _ H2 ⟨r1,rfl,h⟩
 refine Zi (.bool (decide ((r1:Int) ≥ 0))) (Za (GL.nil ?_))
 exact Y1 I3 ⟨(decide ((r1:Int) ≥ 0)),rfl,h⟩
def QjJ (C:Ctx) (p_x:Qa) (v0:Nat×Nat) (K:Bool→Heap→Prop) (H:Heap):Prop:=
 nw (Qa.c p_x) (fun b1 H2=>
 ldV H2 v0 fun x3=>
 ldT H2 Qa.c (b1,0) fun x5=>
 callU Tryz.prog C x3 [.agg (Qa.c x5).toArray] H2 (fun v H8=>∃ (r7:Bool),v=.bool r7∧
 K (!r7) H8)) H
theorem Qjr (C p_x v0 K H) (h:QjJ C p_x v0 K H):QjV C p_x v0 K H:=by
 refine Ye Tryz.func197 rfl Tryz.ntmps197 [(0,.agg (Qa.c p_x).toArray),(1,pv (some v0))] (Zo (GL.box (v:=.agg (Qa.c p_x).toArray) (cs:=Qa.c p_x) h trivial rfl rfl rfl ?_))
 intro b1 H2 h
 refine Za (GL.nil (Zo (Yl h fun x3 h=>?_)))
 obtain ⟨x5,hr6,h⟩:=h
 refine Zv (OV.loadT rfl rfl rfl hr6) (GL.callU (xv:=x3) (vs:=[.agg (Qa.c x5).toArray]) h trivial rfl rfl rfl ?_)
 rintro _ H8 ⟨r7,rfl,h⟩
 refine Zv (OV.not rfl) (Za (GL.nil ?_))
 exact Y1 I3 ⟨(!r7),rfl,h⟩
def QbD (C:Ctx) (p_s:Sl) (p_f:Value) (K:Int→Heap→Prop) (H:Heap):Prop:=
 lp (α:=Int) 0 H (fun x1 J2 H3=>
 ift (decide ((x1:Int) < (Sl.len p_s:Int)))
 (ixa p_s x1 fun p5=>
 ldT H3 Ql.c (p5.1,p5.2+(x1:Int).toNat*4) fun x10=>
 callU Tryz.prog C p_f [.agg (Ql.c x10).toArray] H3 (fun v H13=>∃ (r12:Bool),v=.bool r12∧
 ift r12
 (K x1 H13)
 (J2 (w .i64 (x1+1)) H13)))
 (K (-1) H3))
theorem Qd0 (C p_s p_f K H) (h:QbD C p_s p_f K H):QbF C p_s p_f K H:=by
 refine Ye Tryz.func198 rfl Tryz.ntmps198 [(0,slv p_s),(1,p_f)] (Zo (Za (GL.nil (GC.seq (Zo (Zm (Zq (Zm (GL.nil (GC.block (Yp h (fun x1=>[(8,.int .i64 x1),(0,slv p_s),(1,p_f),(7,.int .i64 (Sl.len p_s:Int))]) ?_)))))))))))
 intro x1 H3 J2 h
 refine Zo (Zi (.bool (decide ((x1:Int) < (Sl.len p_s:Int)))) (GL.nil (GC.seq (Yd h (fun u4 h=>?_) fun u4 h=>?_))))
 refine GC.skip (GC.seq (GC.block (Zo (Zm (Za (GL.nil (Zo (Zm (Zm (Zm (Yx h fun p5 h=>?_)))))))))))
 obtain ⟨x10,v11,h⟩:=h
 refine Zv (OV.loadT rfl rfl rfl v11) (GL.callU (xv:=p_f) (vs:=[.agg (Ql.c x10).toArray]) h trivial rfl rfl rfl ?_)
 rintro _ H13 ⟨r12,rfl,h⟩
 refine GL.nil (Yd h (fun u14 h=>?_) fun u14 h=>?_)
 refine Zo (Zm (Za (GL.nil ?_)))
 exact Y1 I3 ⟨x1,rfl,h⟩
 refine GC.skip_to (fun _ _ h=>h) (GC.region (Zi (.int .i64 (w .i64 (x1+1))) (Zm ?_)))
 exact Yj I3 (w .i64 (x1+1)) h
 refine GC.exit_to (fun _ _ h=>h) (Zo (Za (GL.nil ?_)))
 exact Y1 I3 ⟨(-1),rfl,h⟩
def Qa6 (C:Ctx) (p_s:Sl) (p_f:Value) (K:Int→Heap→Prop) (H:Heap):Prop:=
 lp (α:=Int) 0 H (fun x1 J2 H3=>
 ift (decide ((x1:Int) < (Sl.len p_s:Int)))
 (ixa p_s x1 fun p5=>
 ldT H3 Qc.c (p5.1,p5.2+(x1:Int).toNat*5) fun x10=>
 callU Tryz.prog C p_f [.agg (Qc.c x10).toArray] H3 (fun v H13=>∃ (r12:Bool),v=.bool r12∧
 ift r12
 (K x1 H13)
 (J2 (w .i64 (x1+1)) H13)))
 (K (-1) H3))
theorem Qc4 (C p_s p_f K H) (h:Qa6 C p_s p_f K H):Qbd C p_s p_f K H:=by
 refine Ye Tryz.func199 rfl Tryz.ntmps199 [(0,slv p_s),(1,p_f)] (Zo (Za (GL.nil (GC.seq (Zo (Zm (Zq (Zm (GL.nil (GC.block (Yp h (fun x1=>[(8,.int .i64 x1),(0,slv p_s),(1,p_f),(7,.int .i64 (Sl.len p_s:Int))]) ?_)))))))))))
 intro x1 H3 J2 h
 refine Zo (Zi (.bool (decide ((x1:Int) < (Sl.len p_s:Int)))) (GL.nil (GC.seq (Yd h (fun u4 h=>?_) fun u4 h=>?_))))
 refine GC.skip (GC.seq (GC.block (Zo (Zm (Za (GL.nil (Zo (Zm (Zm (Zm (Yx h fun p5 h=>?_)))))))))))
 obtain ⟨x10,v11,h⟩:=h
 refine Zv (OV.loadT rfl rfl rfl v11) (GL.callU (xv:=p_f) (vs:=[.agg (Qc.c x10).toArray]) h trivial rfl rfl rfl ?_)
 rintro _ H13 ⟨r12,rfl,h⟩
 refine GL.nil (Yd h (fun u14 h=>?_) fun u14 h=>?_)
 refine Zo (Zm (Za (GL.nil ?_)))
 exact Y1 I3 ⟨x1,rfl,h⟩
 refine GC.skip_to (fun _ _ h=>h) (GC.region (Zi (.int .i64 (w .i64 (x1+1))) (Zm ?_)))
 exact Yj I3 (w .i64 (x1+1)) h
 refine GC.exit_to (fun _ _ h=>h) (Zo (Za (GL.nil ?_)))
 exact Y1 I3 ⟨(-1),rfl,h⟩
def Qkk (C:Ctx) (p_c:Int) (K:Bool→Heap→Prop) (H:Heap):Prop:=
 K ((decide ((p_c:Int) ≥ 97)) && (decide ((p_c:Int)≤122))) H
theorem Qn3 (C p_c K H) (h:Qkk C p_c K H):QfS C p_c K H:=by
 refine Ye Tryz.func200 rfl Tryz.ntmps200 [(0,.int .u8 p_c)] (Zo (Za (GL.nil (Zo (Zm (Zi (.bool (decide ((p_c:Int) ≥ 97))) (Zm (GL.cut0 3 [(8,.bool ((decide ((p_c:Int) ≥ 97)) && (decide ((p_c:Int)≤122))))] ?_ ?_))))))))
 rcases Zb (decide ((p_c:Int) ≥ 97)) with hc1 | hc1
 refine Zu hc1 Ym (Zu hc1 (OV.ibin (v:=.bool (decide ((p_c:Int)≤122))) rfl rfl rfl) (Zt hc1 ?_))
 exact GL.jump0 (fun _ _ h=>h) () rfl ⟨(by rw [hc1]; rfl),trivial⟩
 refine Zk hc1 (Zk hc1 (Zn hc1 ?_))
 exact GL.jump0 (fun _ _ h=>h) () rfl ⟨(by rw [hc1]; rfl),trivial⟩
 refine Za (GL.nil ?_)
 exact Y1 I3 ⟨((decide ((p_c:Int) ≥ 97)) && (decide ((p_c:Int)≤122))),rfl,h⟩
def QhS (C:Ctx) (p_v:Qb) (K:Int→Heap→Prop) (H:Heap):Prop:=
 nw (Qb.c p_v) (fun b1 H2=>
 ldT H2 Qb.c (b1,0) fun x3=>
 QaX C x3 (fun r5 H6=>
 ift (decide ((r5:Int) > 64))
 (K 65 H6)
 (ldT H6 Qb.c (b1,0) fun x8=>
 Qck C x8 (fun r10 H11=>
 ift (!r10)
 (K 4 H11)
 (ldT H11 Qb.c (b1,0) fun x13=>
 Qcj C x13 (fun r15 H16=>
 ift (!r15)
 (K 40 H16)
 (K 0 H16)) H11)) H6)) H2) H
theorem QkR (C p_v K H) (h:QhS C p_v K H):Qbx C p_v K H:=by
 refine Ye Tryz.func201 rfl Tryz.ntmps201 [(0,.agg (Qb.c p_v).toArray)] (Zo (GL.box (v:=.agg (Qb.c p_v).toArray) (cs:=Qb.c p_v) h trivial rfl rfl rfl ?_))
 intro b1 H2 h
 refine Za (GL.nil (GC.seq (Zo ?_)))
 obtain ⟨x3,v4,h⟩:=h
 refine Zv (OV.loadT rfl rfl rfl v4) (Zc h Qk0 ?_)
 rintro _ H6 ⟨r5,rfl,h⟩
 refine Zi (.bool (decide ((r5:Int) > 64))) (GL.nil (Yd h (fun u7 h=>?_) fun u7 h=>?_))
 refine Zo (Za (GL.nil ?_))
 exact Y1 I3 ⟨65,rfl,h⟩
 refine GC.skip (GC.seq (Zo ?_))
 obtain ⟨x8,v9,h⟩:=h
 refine Zv (OV.loadT rfl rfl rfl v9) (Zc h Qmk ?_)
 rintro _ H11 ⟨r10,rfl,h⟩
 refine Zv (OV.not rfl) (GL.nil (Yd h (fun u12 h=>?_) fun u12 h=>?_))
 refine Zo (Za (GL.nil ?_))
 exact Y1 I3 ⟨4,rfl,h⟩
 refine GC.skip (GC.seq (Zo ?_))
 obtain ⟨x13,v14,h⟩:=h
 refine Zv (OV.loadT rfl rfl rfl v14) (Zc h Qmj ?_)
 rintro _ H16 ⟨r15,rfl,h⟩
 refine Zv (OV.not rfl) (GL.nil (Yd h (fun u17 h=>?_) fun u17 h=>?_))
 refine Zo (Za (GL.nil ?_))
 exact Y1 I3 ⟨40,rfl,h⟩
 refine GC.skip (Zo (Za (GL.nil ?_)))
 exact Y1 I3 ⟨0,rfl,h⟩
def Qlg (C:Ctx) (p_s:Str) (K:Int→Heap→Prop) (H:Heap):Prop:=
 nw ([sv [43],sv [45],sv [42],sv [47],sv [37],sv [43,43],sv [61,61],sv [33,61],sv [60],sv [60,61],sv [62],sv [62,61],sv [97,110,100],sv [111,114]]) (fun b1 H2=>
 lp (α:=Int) 0 H2 (fun x3 J4 H5=>
 ift (decide ((x3:Int) < (Sl.len (Sl.of (some (b1,0)) 14 14):Int)))
 (ixa (Sl.of (some (b1,0)) 14 14) x3 fun p7=>
 ldS H5 (p7.1,p7.2+(x3:Int).toNat*1) fun x12=>
 ift (x12 == p_s)
 (K 2 H5)
 (J4 (w .i64 (x3+1)) H5))
 (jn (α:=Bool) (fun b15 H21=>
 ift b15
 (K 1 H21)
 (K 0 H21))
 (fun J16=>ift (p_s == ([110,111,116]:Str))
 (J16 true H5)
 (Qcd C p_s (fun r19 H20=>
 J16 r19 H20) H5))))) H
theorem Qo0 (C p_s K H) (h:Qlg C p_s K H):Qcl C p_s K H:=by
 refine Ye Tryz.func202 rfl Tryz.ntmps202 [(0,sv p_s)] (Zo (Za (GL.nil (Zo (GL.buildSlice (cs:=[sv [43],sv [45],sv [42],sv [47],sv [37],sv [43,43],sv [61,61],sv [33,61],sv [60],sv [60,61],sv [62],sv [62,61],sv [97,110,100],sv [111,114]]) h trivial rfl (vs:=[(0,sv [43]),(1,sv [45]),(2,sv [42]),(3,sv [47]),(4,sv [37]),(5,sv [43,43]),(6,sv [61,61]),(7,sv [33,61]),(8,sv [60]),(9,sv [60,61]),(10,sv [62]),(11,sv [62,61]),(12,sv [97,110,100]),(13,sv [111,114])]) rfl ⟨9,fun _=>by kernel_rfl⟩ ?_)))))
 intro b1 H2 h
 refine Za (GL.nil (GC.seq (Zo (Za (GL.nil (GC.block (Yp h (fun x3=>[(4,.int .i64 x3),(0,sv p_s),(3,slv (Sl.of (some (b1,0)) 14 14))]) ?_)))))))
 intro x3 H5 J4 h
 refine GC.seq (Zo (Zm (Zm (Zq (Zi (.bool (decide ((x3:Int) < (Sl.len (Sl.of (some (b1,0)) 14 14):Int)))) (GL.nil (Yd h (fun u6 h=>?_) fun u6 h=>?_)))))))
 refine GC.skip (GC.seq (GC.block (Zo (Zm (Zm (Yx h fun p7 h=>?_))))))
 refine Yl h fun x12 h=>?_
 refine Zm (Zv (OV.sbin (a:=x12) (b:=p_s) (v:=.bool (x12 == p_s)) rfl rfl rfl) (GL.nil (Yd h (fun u14 h=>?_) fun u14 h=>?_)))
 refine Zo (Za (GL.nil ?_))
 exact Y1 I3 ⟨2,rfl,h⟩
 refine GC.skip_to (fun _ _ h=>h) (GC.region (Zm (Zi (.int .i64 (w .i64 (x3+1))) (Za ?_))))
 exact Yj I3 (w .i64 (x3+1)) h
 refine GC.exit_to (fun _ _ h=>h) (GC.seq (Zo (Zm (Zv (OV.sbin (a:=p_s) (b:=([110,111,116]:Str)) (v:=.bool (p_s == ([110,111,116]:Str))) rfl rfl rfl) (Zm ?_)))))
 obtain ⟨J16,h,hR17⟩:=h
 refine GL.cut (α:=Bool) 3 J16 (fun b15=>[(23,.bool b15)]) ?_ ?_
 rcases h.em with ⟨u18,h⟩ | ⟨u18,h⟩
 refine Zk u18 (Zk u18 (Zt u18 ?_))
 exact Yj I3 true h
 refine Zu u18 Ym (GL.call h (Yt u18) rfl QfR (vs:=[sv p_s]) rfl ?_)
 rintro _ H20 ⟨r19,rfl,h⟩
 refine Zn u18 ?_
 exact Yj I3 r19 h
 intro b15 H21 h
 replace h:=hR17 b15 H21 h
 refine GL.nil (Yd h (fun u22 h=>?_) fun u22 h=>?_)
 refine Zo (Za (GL.nil ?_))
 exact Y1 I3 ⟨1,rfl,h⟩
 refine GC.skip (Zo (Za (GL.nil ?_)))
 exact Y1 I3 ⟨0,rfl,h⟩
def QmJ (C:Ctx) (p_v:Qb) (K:Bool→Heap→Prop) (H:Heap):Prop:=
 nw (Qb.c p_v) (fun b1 H2=>
 ldT H2 Qb.c (b1,0) fun x3=>
 QbY C x3 (⟨0,0,[],Sl.nil⟩:Qb) (fun r5 H6=>
 K r5 H6) H2) H
theorem Qqf (C p_v K H) (h:QmJ C p_v K H):Qd4 C p_v K H:=by
 refine Ye Tryz.func203 rfl Tryz.ntmps203 [(0,.agg (Qb.c p_v).toArray)] (Zo (GL.box (v:=.agg (Qb.c p_v).toArray) (cs:=Qb.c p_v) h trivial rfl rfl rfl ?_))
 intro b1 H2 h
 refine Za (GL.nil (Zo ?_))
 obtain ⟨x3,v4,h⟩:=h
 refine Zv (OV.loadT rfl rfl rfl v4) (Zv (OV.build (vs:=[]) (v:=.agg (Qb.c (⟨0,0,[],Sl.nil⟩:Qb)).toArray) rfl (fun _=>by kernel_rfl)) (Zc h Qmi ?_))
 rintro _ H6 ⟨r5,rfl,h⟩
 refine Za (GL.nil ?_)
 exact Y1 I3 ⟨r5,rfl,h⟩
def Qad (C:Ctx) (p_s1:Sl) (p_s2:Sl) (p_eq:Value) (K:Bool→Heap→Prop) (H:Heap):Prop:=
 ift (((Sl.len p_s1:Int):Int) != (Sl.len p_s2:Int))
 (K false H)
 (lp (α:=Int) 0 H (fun x2 J3 H4=>
 ift (decide ((x2:Int) < (Sl.len p_s1:Int)))
 (ixa p_s1 x2 fun p6=>
 ldT H4 Qe.c (p6.1,p6.2+(x2:Int).toNat*2) fun x11=>
 nw (Qe.c Qe.zero) (fun b13 H14=>
 stT (b13,0) (Qe.c x11) (fun H15=>
 ixa p_s2 x2 fun p16=>
 ldT H15 Qe.c (p16.1,p16.2+(x2:Int).toNat*2) fun x21=>
 nw (Qe.c Qe.zero) (fun b23 H24=>
 stT (b23,0) (Qe.c x21) (fun H25=>
 ldT H25 Qe.c (b13,0) fun x26=>
 ldT H25 Qe.c (b23,0) fun x28=>
 callU Tryz.prog C p_eq [.agg (Qe.c x26).toArray,.agg (Qe.c x28).toArray] H25 (fun v H31=>∃ (r30:Bool),v=.bool r30∧
 ift (!r30)
 (K false H31)
 (J3 (w .i64 (x2+1)) H31))) H24) H15) H14) H4)
 (K true H4)))
theorem QbJ (C p_s1 p_s2 p_eq K H) (h:Qad C p_s1 p_s2 p_eq K H):QB C p_s1 p_s2 p_eq K H:=by
 refine Ye Tryz.func204 rfl Tryz.ntmps204 [(0,slv p_s1),(1,slv p_s2),(2,p_eq)] (Zo (Za (GL.nil (GC.seq (Zo (Zm (Zq (Zm (Zq (Zi (.bool (((Sl.len p_s1:Int):Int) != (Sl.len p_s2:Int))) (GL.nil (Yd h (fun u1 h=>?_) fun u1 h=>?_))))))))))))
 refine Zo (Za (GL.nil ?_))
 exact Y1 I3 ⟨false,rfl,h⟩
 refine GC.skip (GC.seq (Zo (Zm (Zq (Zm (GL.nil (GC.block (Yp h (fun x2=>[(17,.int .i64 x2),(1,slv p_s2),(2,p_eq),(15,slv p_s1),(16,.int .i64 (Sl.len p_s1:Int))]) ?_))))))))
 intro x2 H4 J3 h
 refine Zo (Zi (.bool (decide ((x2:Int) < (Sl.len p_s1:Int)))) (GL.nil (GC.seq (Yd h (fun u5 h=>?_) fun u5 h=>?_))))
 refine GC.skip (GC.seq (GC.block (Zo (Zm (Yx h fun p6 h=>?_)))))
 obtain ⟨x11,v12,h⟩:=h
 refine Zv (OV.loadT rfl rfl rfl v12) (GL.alloc (cs:=Qe.c Qe.zero) h trivial rfl rfl rfl ?_)
 intro b13 H14 h
 refine Za (GL.storeT (p:=(b13,0)) (vs:=Qe.c x11) h trivial rfl rfl rfl rfl ?_)
 intro H15 h
 refine GL.nil (Zo (Zm (Zm (Yx h fun p16 h=>?_))))
 obtain ⟨x21,v22,h⟩:=h
 refine Zv (OV.loadT rfl rfl rfl v22) (GL.alloc (cs:=Qe.c Qe.zero) h trivial rfl rfl rfl ?_)
 intro b23 H24 h
 refine GL.storeT (p:=(b23,0)) (vs:=Qe.c x21) h trivial rfl rfl rfl rfl ?_
 intro H25 h
 refine GL.nil (Zo (Zm ?_))
 obtain ⟨x26,v27,h⟩:=h
 refine Zv (OV.loadT rfl rfl rfl v27) ?_
 obtain ⟨x28,v29,h⟩:=h
 refine Zv (OV.loadT rfl rfl rfl v29) (GL.callU (xv:=p_eq) (vs:=[.agg (Qe.c x26).toArray,.agg (Qe.c x28).toArray]) h trivial rfl rfl rfl ?_)
 rintro _ H31 ⟨r30,rfl,h⟩
 refine Zv (OV.not rfl) (GL.nil (Yd h (fun u32 h=>?_) fun u32 h=>?_))
 refine Zo (Za (GL.nil ?_))
 exact Y1 I3 ⟨false,rfl,h⟩
 refine GC.skip_to (fun _ _ h=>h) (GC.region (Zi (.int .i64 (w .i64 (x2+1))) (Zm ?_)))
 exact Yj I3 (w .i64 (x2+1)) h
 refine GC.exit_to (fun _ _ h=>h) (Zo (Za (GL.nil ?_)))
 exact Y1 I3 ⟨true,rfl,h⟩
def Q5 (C:Ctx) (p_s1:Sl) (p_s2:Sl) (p_eq:Value) (K:Bool→Heap→Prop) (H:Heap):Prop:=
 ift (((Sl.len p_s1:Int):Int) != (Sl.len p_s2:Int))
 (K false H)
 (lp (α:=Int) 0 H (fun x2 J3 H4=>
 ift (decide ((x2:Int) < (Sl.len p_s1:Int)))
 (ixa p_s1 x2 fun p6=>
 ldT H4 Qb.c (p6.1,p6.2+(x2:Int).toNat*4) fun x11=>
 nw (Qb.c Qb.zero) (fun b13 H14=>
 stT (b13,0) (Qb.c x11) (fun H15=>
 ixa p_s2 x2 fun p16=>
 ldT H15 Qb.c (p16.1,p16.2+(x2:Int).toNat*4) fun x21=>
 nw (Qb.c Qb.zero) (fun b23 H24=>
 stT (b23,0) (Qb.c x21) (fun H25=>
 ldT H25 Qb.c (b13,0) fun x26=>
 ldT H25 Qb.c (b23,0) fun x28=>
 callU Tryz.prog C p_eq [.agg (Qb.c x26).toArray,.agg (Qb.c x28).toArray] H25 (fun v H31=>∃ (r30:Bool),v=.bool r30∧
 ift (!r30)
 (K false H31)
 (J3 (w .i64 (x2+1)) H31))) H24) H15) H14) H4)
 (K true H4)))
theorem Qbm (C p_s1 p_s2 p_eq K H) (h:Q5 C p_s1 p_s2 p_eq K H):Qz C p_s1 p_s2 p_eq K H:=by
 refine Ye Tryz.func205 rfl Tryz.ntmps205 [(0,slv p_s1),(1,slv p_s2),(2,p_eq)] (Zo (Za (GL.nil (GC.seq (Zo (Zm (Zq (Zm (Zq (Zi (.bool (((Sl.len p_s1:Int):Int) != (Sl.len p_s2:Int))) (GL.nil (Yd h (fun u1 h=>?_) fun u1 h=>?_))))))))))))
 refine Zo (Za (GL.nil ?_))
 exact Y1 I3 ⟨false,rfl,h⟩
 refine GC.skip (GC.seq (Zo (Zm (Zq (Zm (GL.nil (GC.block (Yp h (fun x2=>[(17,.int .i64 x2),(1,slv p_s2),(2,p_eq),(15,slv p_s1),(16,.int .i64 (Sl.len p_s1:Int))]) ?_))))))))
 intro x2 H4 J3 h
 refine Zo (Zi (.bool (decide ((x2:Int) < (Sl.len p_s1:Int)))) (GL.nil (GC.seq (Yd h (fun u5 h=>?_) fun u5 h=>?_))))
 refine GC.skip (GC.seq (GC.block (Zo (Zm (Yx h fun p6 h=>?_)))))
 obtain ⟨x11,v12,h⟩:=h
 refine Zv (OV.loadT rfl rfl rfl v12) (GL.alloc (cs:=Qb.c Qb.zero) h trivial rfl rfl rfl ?_)
 intro b13 H14 h
 refine Za (GL.storeT (p:=(b13,0)) (vs:=Qb.c x11) h trivial rfl rfl rfl rfl ?_)
 intro H15 h
 refine GL.nil (Zo (Zm (Zm (Yx h fun p16 h=>?_))))
 obtain ⟨x21,v22,h⟩:=h
 refine Zv (OV.loadT rfl rfl rfl v22) (GL.alloc (cs:=Qb.c Qb.zero) h trivial rfl rfl rfl ?_)
 intro b23 H24 h
 refine GL.storeT (p:=(b23,0)) (vs:=Qb.c x21) h trivial rfl rfl rfl rfl ?_
 intro H25 h
 refine GL.nil (Zo (Zm ?_))
 obtain ⟨x26,v27,h⟩:=h
 refine Zv (OV.loadT rfl rfl rfl v27) ?_
 obtain ⟨x28,v29,h⟩:=h
 refine Zv (OV.loadT rfl rfl rfl v29) (GL.callU (xv:=p_eq) (vs:=[.agg (Qb.c x26).toArray,.agg (Qb.c x28).toArray]) h trivial rfl rfl rfl ?_)
 rintro _ H31 ⟨r30,rfl,h⟩
 refine Zv (OV.not rfl) (GL.nil (Yd h (fun u32 h=>?_) fun u32 h=>?_))
 refine Zo (Za (GL.nil ?_))
 exact Y1 I3 ⟨false,rfl,h⟩
 refine GC.skip_to (fun _ _ h=>h) (GC.region (Zi (.int .i64 (w .i64 (x2+1))) (Zm ?_)))
 exact Yj I3 (w .i64 (x2+1)) h
 refine GC.exit_to (fun _ _ h=>h) (Zo (Za (GL.nil ?_)))
 exact Y1 I3 ⟨true,rfl,h⟩
def QlC (C:Ctx) (p_v:Qb) (K:Int→Heap→Prop) (H:Heap):Prop:=
 nw (Qb.c p_v) (fun b1 H2=>
 ldT H2 Qb.c (b1,0) fun x3=>
 QbW C x3 65 (fun r5 H6=>
 ift (decide ((r5:Int) > 64))
 (K 65 H6)
 (ldT H6 Qb.c (b1,0) fun x8=>
 Qaq C x8 (fun r10 r11 H12=>
 ift (!r10)
 (K 4 H12)
 (ift (!r11)
 (K 40 H12)
 (K 0 H12))) H6)) H2) H
theorem Qpm (C p_v K H) (h:QlC C p_v K H):Qco C p_v K H:=by
 refine Ye Tryz.func206 rfl Tryz.ntmps206 [(0,.agg (Qb.c p_v).toArray)] (Zo (GL.box (v:=.agg (Qb.c p_v).toArray) (cs:=Qb.c p_v) h trivial rfl rfl rfl ?_))
 intro b1 H2 h
 refine Za (GL.nil (GC.seq (Zo ?_)))
 obtain ⟨x3,v4,h⟩:=h
 refine Zv (OV.loadT rfl rfl rfl v4) (Zc h Qk8 ?_)
 rintro _ H6 ⟨r5,rfl,h⟩
 refine Zi (.bool (decide ((r5:Int) > 64))) (GL.nil (Yd h (fun u7 h=>?_) fun u7 h=>?_))
 refine Zo (Za (GL.nil ?_))
 exact Y1 I3 ⟨65,rfl,h⟩
 refine GC.skip (GC.seq (Zo ?_))
 obtain ⟨x8,v9,h⟩:=h
 refine Zv (OV.loadT rfl rfl rfl v9) (Zc h Qhl ?_)
 rintro _ H12 ⟨r10,r11,rfl,h⟩
 refine Zm (Yv (.bool r10) rfl rfl (Yv (.bool r11) rfl rfl (Za (Za (GL.nil (GC.block (Zo (Zm (Zv (OV.not rfl) (Za (GL.nil (Yd h (fun u13 h=>?_) fun u13 h=>?_))))))))))))
 refine Zo (Za (GL.nil ?_))
 exact Y1 I3 ⟨4,rfl,h⟩
 refine Zo (Zm (Zv (OV.not rfl) (Za (GL.nil (Yd h (fun u14 h=>?_) fun u14 h=>?_)))))
 refine Zo (Za (GL.nil ?_))
 exact Y1 I3 ⟨40,rfl,h⟩
 refine GC.skip_to (fun _ _ h=>h) (Zo (Za (GL.nil ?_)))
 exact Y1 I3 ⟨0,rfl,h⟩
def QmM (C:Ctx) (K:Option Nat→Heap→Prop) (H:Heap):Prop:=
 mkM (fun b1 H2=>
 upS sv (fun x:Int=>(.int .i64 x:Value)) (some b1) [110,111,116] 1 (fun H3=>
 upS sv (fun x:Int=>(.int .i64 x:Value)) (some b1) [110,101,103] 1 (fun H4=>
 upS sv (fun x:Int=>(.int .i64 x:Value)) (some b1) [108,101,110] 1 (fun H5=>
 upS sv (fun x:Int=>(.int .i64 x:Value)) (some b1) [98,105,103] 1 (fun H6=>
 upS sv (fun x:Int=>(.int .i64 x:Value)) (some b1) [105,110,116] 1 (fun H7=>
 nw ([sv [43],sv [45],sv [42],sv [47],sv [37],sv [43,43],sv [61,61],sv [33,61],sv [60],sv [60,61],sv [62],sv [62,61],sv [97,110,100],sv [111,114]]) (fun b8 H9=>
 lp (α:=Int) 0 H9 (fun x10 J11 H12=>
 ift (decide ((x10:Int) < (Sl.len (Sl.of (some (b8,0)) 14 14):Int)))
 (ixa (Sl.of (some (b8,0)) 14 14) x10 fun p14=>
 ldS H12 (p14.1,p14.2+(x10:Int).toNat*1) fun x19=>
 upS sv (fun x:Int=>(.int .i64 x:Value)) (some b1) x19 2 (fun H21=>
 J11 (w .i64 (x10+1)) H21) H12)
 (K (some b1) H12))) H7) H6) H5) H4) H3) H2) H
theorem Qqi (C:Ctx) (K:Option Nat→Heap→Prop) (H:Heap) (h:QmM C  K H):QjY C  K H:=by
 refine Spec.enter Tryz.func207 rfl Tryz.ntmps207 rfl (GC.sub [] trivial (Zo (Za (GL.nil (Zo (GL.makeMap h trivial rfl ?_))))))
 intro b1 H2 h
 refine GL.insertS (ke:=sv) (enc:=(fun x:Int=>(.int .i64 x:Value))) (q:=(some b1)) (k:=[110,111,116]) (x:=1) h trivial rfl rfl rfl rfl (kText rfl) ?_
 intro H3 h
 refine GL.insertS (ke:=sv) (enc:=(fun x:Int=>(.int .i64 x:Value))) (q:=(some b1)) (k:=[110,101,103]) (x:=1) h trivial rfl rfl rfl rfl (kText rfl) ?_
 intro H4 h
 refine GL.insertS (ke:=sv) (enc:=(fun x:Int=>(.int .i64 x:Value))) (q:=(some b1)) (k:=[108,101,110]) (x:=1) h trivial rfl rfl rfl rfl (kText rfl) ?_
 intro H5 h
 refine GL.insertS (ke:=sv) (enc:=(fun x:Int=>(.int .i64 x:Value))) (q:=(some b1)) (k:=[98,105,103]) (x:=1) h trivial rfl rfl rfl rfl (kText rfl) ?_
 intro H6 h
 refine GL.insertS (ke:=sv) (enc:=(fun x:Int=>(.int .i64 x:Value))) (q:=(some b1)) (k:=[105,110,116]) (x:=1) h trivial rfl rfl rfl rfl (kText rfl) ?_
 intro H7 h
 refine Zm (Za (GL.nil (GC.seq (Zo (GL.buildSlice (cs:=[sv [43],sv [45],sv [42],sv [47],sv [37],sv [43,43],sv [61,61],sv [33,61],sv [60],sv [60,61],sv [62],sv [62,61],sv [97,110,100],sv [111,114]]) h trivial rfl (vs:=[(0,sv [43]),(1,sv [45]),(2,sv [42]),(3,sv [47]),(4,sv [37]),(5,sv [43,43]),(6,sv [61,61]),(7,sv [33,61]),(8,sv [60]),(9,sv [60,61]),(10,sv [62]),(11,sv [62,61]),(12,sv [97,110,100]),(13,sv [111,114])]) rfl ⟨9,fun _=>by kernel_rfl⟩ ?_)))))
 intro b8 H9 h
 refine Zq (Zm (GL.nil (GC.block (Yp h (fun x10=>[(8,.int .i64 x10),(1,mv (some b1)),(6,slv (Sl.of (some (b8,0)) 14 14)),(7,.int .i64 (Sl.len (Sl.of (some (b8,0)) 14 14):Int))]) ?_))))
 intro x10 H12 J11 h
 refine Zo (Zi (.bool (decide ((x10:Int) < (Sl.len (Sl.of (some (b8,0)) 14 14):Int)))) (GL.nil (GC.seq (Yd h (fun u13 h=>?_) fun u13 h=>?_))))
 refine GC.skip (GC.seq (GC.block (Zo (Yx h fun p14 h=>?_))))
 refine Yl h fun x19 h=>?_
 refine Za (GL.nil (GC.region (Zm (Zm (GL.mapUpdateS (ke:=sv) (enc:=(fun x:Int=>(.int .i64 x:Value))) (q:=(some b1)) (k:=x19) (x:=2) h trivial rfl rfl rfl rfl (kText rfl) ?_)))))
 intro H21 h
 refine GL.nil_to (fun _ _ h=>h) (GC.region (Zi (.int .i64 (w .i64 (x10+1))) (Zm ?_)))
 exact Yj I3 (w .i64 (x10+1)) h
 refine GC.exit_to (fun _ _ h=>h) (Zo (Zm (Za (GL.nil ?_))))
 exact Y1 I3 ⟨(some b1),rfl,h⟩
def QnB (C:Ctx) (p_v:Qb) (K:Bool→Heap→Prop) (H:Heap):Prop:=
 nw (Qb.c p_v) (fun b1 H2=>
 ldI H2 .u8 ((b1,0).1,(b1,0).2+0) fun x3=>
 jn (α:=Bool) (fun b5 H11=>
 jn (α:=Bool) (fun b12 H18=>
 jn (α:=Bool) (fun b19 H25=>
 K b19 H25)
 (fun J20=>ift b12
 (ldL H18 ((b1,0).1,(b1,0).2+3) fun x23=>
 J20 (((Sl.len x23:Int):Int) == 0) H18)
 (J20 false H18)))
 (fun J13=>ift b5
 (ldS H11 ((b1,0).1,(b1,0).2+2) fun x16=>
 J13 (x16 == ([]:Str)) H11)
 (J13 false H11)))
 (fun J6=>ift ((x3:Int) == 0)
 (ldI H2 .i64 ((b1,0).1,(b1,0).2+1) fun x9=>
 J6 ((x9:Int) == 0) H2)
 (J6 false H2))) H
theorem QqV (C p_v K H) (h:QnB C p_v K H):QeZ C p_v K H:=by
 refine Ye Tryz.func208 rfl Tryz.ntmps208 [(0,.agg (Qb.c p_v).toArray)] (Zo (GL.box (v:=.agg (Qb.c p_v).toArray) (cs:=Qb.c p_v) h trivial rfl rfl rfl ?_))
 intro b1 H2 h
 refine Za (GL.nil (Zo (Zf (Yl h fun x3 h=>?_))))
 refine Zi (.bool ((x3:Int) == 0)) (Zm ?_)
 obtain ⟨J6,h,hR7⟩:=h
 refine GL.cut (α:=Bool) 4 J6 (fun b5=>[(10,.bool b5),(1,pv (some (b1,0)))]) ?_ ?_
 rcases h.em with ⟨u8,h⟩ | ⟨u8,h⟩
 refine Zu u8 Yf ?_
 obtain ⟨x9,v10,h⟩:=h
 refine Zu u8 (Yo v10) (Zu u8 (OV.ibin (v:=.bool ((x9:Int) == 0)) rfl rfl rfl) (Zt u8 ?_))
 exact Yj I3 ((x9:Int) == 0) h
 refine Zk u8 (Zk u8 (Zk u8 (Zn u8 ?_)))
 exact Yj I3 false h
 intro b5 H11 h
 replace h:=hR7 b5 H11 h
 refine Zm ?_
 obtain ⟨J13,h,hR14⟩:=h
 refine GL.cut (α:=Bool) 4 J13 (fun b12=>[(15,.bool b12),(1,pv (some (b1,0)))]) ?_ ?_
 rcases h.em with ⟨u15,h⟩ | ⟨u15,h⟩
 refine Zu u15 Yf ?_
 obtain ⟨x16,v17,h⟩:=h
 refine Zu u15 (Yo v17) (Zu u15 (OV.sbin (a:=x16) (b:=([]:Str)) (v:=.bool (x16 == ([]:Str))) rfl rfl rfl) (Zt u15 ?_))
 exact Yj I3 (x16 == ([]:Str)) h
 refine Zk u15 (Zk u15 (Zk u15 (Zn u15 ?_)))
 exact Yj I3 false h
 intro b12 H18 h
 replace h:=hR14 b12 H18 h
 refine Zm ?_
 obtain ⟨J20,h,hR21⟩:=h
 refine GL.cut (α:=Bool) 5 J20 (fun b19=>[(21,.bool b19)]) ?_ ?_
 rcases h.em with ⟨u22,h⟩ | ⟨u22,h⟩
 refine Zu u22 Yf ?_
 obtain ⟨x23,v24,h⟩:=h
 refine Zu u22 (Yo v24) (Zu u22 (OV.lenSl rfl rfl) (Zu u22 (OV.ibin (v:=.bool (((Sl.len x23:Int):Int) == 0)) rfl rfl rfl) (Zt u22 ?_)))
 exact Yj I3 (((Sl.len x23:Int):Int) == 0) h
 refine Zk u22 (Zk u22 (Zk u22 (Zk u22 (Zn u22 ?_))))
 exact Yj I3 false h
 intro b19 H25 h
 replace h:=hR21 b19 H25 h
 refine Za (GL.nil ?_)
 exact Y1 I3 ⟨b19,rfl,h⟩
def QlA (C:Ctx) (p_x:Qa) (v0:Nat×Nat) (K:Bool→Heap→Prop) (H:Heap):Prop:=
 nw (Qa.c p_x) (fun b1 H2=>
 ldT H2 Qa.c (b1,0) fun x3=>
 ldB H2 v0 fun x5=>
 Qdd C x3 x5 (fun r7 H8=>
 K r7 H8) H2) H
theorem Qpk (C p_x v0 K H) (h:QlA C p_x v0 K H):Qep C p_x v0 K H:=by
 refine Ye Tryz.func209 rfl Tryz.ntmps209 [(0,.agg (Qa.c p_x).toArray),(1,pv (some v0))] (Zo (GL.box (v:=.agg (Qa.c p_x).toArray) (cs:=Qa.c p_x) h trivial rfl rfl rfl ?_))
 intro b1 H2 h
 refine Za (GL.nil (Zo ?_))
 obtain ⟨x3,hr4,h⟩:=h
 refine Zv (OV.loadT rfl rfl rfl hr4) (Yl h fun x5 h=>?_)
 refine Zc h Qkb ?_
 rintro _ H8 ⟨r7,rfl,h⟩
 refine Za (GL.nil ?_)
 exact Y1 I3 ⟨r7,rfl,h⟩
def Qkx (C:Ctx) (p_l:Sl) (v0:Nat×Nat) (v1:Nat×Nat) (K:Heap→Prop) (H:Heap):Prop:=
 Qo C (some v0) 40 (fun r1 H2=>
 lp (α:=Int) 0 H2 (fun x3 J4 H5=>
 ift (decide ((x3:Int) < (Sl.len p_l:Int)))
 (ixa p_l x3 fun p7=>
 ldT H5 Qb.c (p7.1,p7.2+(x3:Int).toNat*4) fun x12=>
 nw (Qb.c Qb.zero) (fun b14 H15=>
 stT (b14,0) (Qb.c x12) (fun H16=>
 jn (α:=Unit) (fun x18 H19=>
 ldV H19 v1 fun x25=>
 ldT H19 Qb.c (b14,0) fun x27=>
 callU Tryz.prog C x25 [.agg (Qb.c x27).toArray] H19 (fun v H29=>v=.tuple #[]∧
 J4 (w .i64 (x3+1)) H29))
 (fun J17=>ift (decide ((x3:Int) > 0))
 (Qj C (some v0) [44,32] (fun r22 r23 H24=>
 J17 () H24) H16)
 (J17 () H16))) H15) H5)
 (Qo C (some v0) 41 (fun r30 H31=>
 K H31) H5))) H
theorem Qog (C p_l v0 v1 K H) (h:Qkx C p_l v0 v1 K H):QhG C p_l v0 v1 K H:=by
 refine Ye Tryz.func210 rfl Tryz.ntmps210 [(0,slv p_l),(1,pv (some v0)),(2,pv (some v1))] (Zo (Zc h Qq ?_))
 rintro _ H2 ⟨r1,rfl,h⟩
 refine GL.nil (GC.seq (Zo (Zm (Zq (Zm (GL.nil (GC.block (Yp h (fun x3=>[(9,.int .i64 x3),(1,pv (some v0)),(2,pv (some v1)),(7,slv p_l),(8,.int .i64 (Sl.len p_l:Int))]) ?_))))))))
 intro x3 H5 J4 h
 refine Zo (Zi (.bool (decide ((x3:Int) < (Sl.len p_l:Int)))) (GL.nil (GC.seq (Yd h (fun u6 h=>?_) fun u6 h=>?_))))
 refine GC.skip (GC.seq (GC.block (Zo (Zm (Yx h fun p7 h=>?_)))))
 obtain ⟨x12,hr13,h⟩:=h
 refine Zv (OV.loadT rfl rfl rfl hr13) (GL.alloc (cs:=Qb.c Qb.zero) h trivial rfl rfl rfl ?_)
 intro b14 H15 h
 refine Za (GL.storeT (p:=(b14,0)) (vs:=Qb.c x12) h trivial rfl rfl rfl rfl ?_)
 intro H16 h
 refine GL.nil ?_
 obtain ⟨J17,h,hR20⟩:=h
 refine GC.join (α:=Unit) J17 (fun _=>[(1,pv (some v0)),(2,pv (some v1)),(5,pv (some (b14,0))),(7,slv p_l),(8,.int .i64 (Sl.len p_l:Int)),(9,.int .i64 x3)]) ?_ ?_
 refine Zo (Zm (Zi (.bool (decide ((x3:Int) > 0))) (GL.nil (Yd h (fun u21 h=>?_) fun u21 h=>?_))))
 refine GC.region (Zc h Qm ?_)
 rintro _ H24 ⟨r22,r23,rfl,h⟩
 exact Yj I3 () h
 exact Yk I3 () h
 intro x18 H19 h
 replace h:=hR20 x18 H19 h
 refine GC.region (Yl h fun x25 h=>?_)
 obtain ⟨x27,hr28,h⟩:=h
 refine Zv (OV.loadT rfl rfl rfl hr28) (GL.callU (xv:=x25) (vs:=[.agg (Qb.c x27).toArray]) h trivial rfl rfl rfl ?_)
 rintro _ H29 ⟨rfl,h⟩
 refine GL.nil_to (fun _ _ h=>h) (GC.region (Zi (.int .i64 (w .i64 (x3+1))) (Zm ?_)))
 exact Yj I3 (w .i64 (x3+1)) h
 refine GC.exit_to (fun _ _ h=>h) (GC.region (Zc h Qq ?_))
 rintro _ H31 ⟨r30,rfl,h⟩
 exact GL.ends (fun _ _ hf hs=>QC rfl hf hs ⟨rfl,h⟩)
def Qky (C:Ctx) (p_v:Qb) (v0:Nat×Nat) (v1:Nat×Nat) (K:Heap→Prop) (H:Heap):Prop:=
 nw (Qb.c p_v) (fun b1 H2=>
 ldI H2 .u8 ((b1,0).1,(b1,0).2+0) fun x3=>
 ift ((x3:Int) == 1)
 (ldI H2 .i64 ((b1,0).1,(b1,0).2+1) fun x6=>
 QeA C ((x6:Int) == 1) (fun r8 H9=>
 Qj C (some v0) r8 (fun r10 r11 H12=>
 K H12) H9) H2)
 (ift ((x3:Int) == 2)
 (ldI H2 .i64 ((b1,0).1,(b1,0).2+1) fun x14=>
 QgK C x14 10 (fun r16 H17=>
 Qj C (some v0) r16 (fun r18 r19 H20=>
 K H20) H17) H2)
 (ift ((x3:Int) == 3)
 (ldS H2 ((b1,0).1,(b1,0).2+2) fun x22=>
 Qj C (some v0) x22 (fun r24 r25 H26=>
 Qo C (some v0) 98 (fun r27 H28=>
 K H28) H26) H2)
 (ift ((x3:Int) == 4)
 (ldS H2 ((b1,0).1,(b1,0).2+2) fun x30=>
 QiZ C (some v0) x30 (fun H32=>
 K H32) H2)
 (ift ((x3:Int) == 5)
 (ldV H2 v1 fun x34=>
 ldL H2 ((b1,0).1,(b1,0).2+3) fun x36=>
 callU Tryz.prog C x34 [slv x36] H2 (fun v H38=>v=.tuple #[]∧
 K H38))
 (ldS H2 ((b1,0).1,(b1,0).2+2) fun x39=>
 Qj C (some v0) x39 (fun r41 r42 H43=>
 ldL H43 ((b1,0).1,(b1,0).2+3) fun x44=>
 ift (decide (((Sl.len x44:Int):Int) > 0))
 (ldV H43 v1 fun x47=>
 ldL H43 ((b1,0).1,(b1,0).2+3) fun x49=>
 callU Tryz.prog C x47 [slv x49] H43 (fun v H51=>v=.tuple #[]∧
 K H51))
 (K H43)) H2)))))) H
theorem Qoh (C p_v v0 v1 K H) (h:Qky C p_v v0 v1 K H):QeL C p_v v0 v1 K H:=by
 refine Ye Tryz.func211 rfl Tryz.ntmps211 [(0,.agg (Qb.c p_v).toArray),(1,pv (some v0)),(2,pv (some v1))] (Zo (GL.box (v:=.agg (Qb.c p_v).toArray) (cs:=Qb.c p_v) h trivial rfl rfl rfl ?_))
 intro b1 H2 h
 refine GL.nil (Zo (Zf (Yl h fun x3 h=>?_)))
 refine GL.nil (GC.block (Zo (Zi (.bool ((x3:Int) == 1)) (Za (GL.nil (Yd h (fun u5 h=>?_) fun u5 h=>?_))))))
 refine GC.region (Zf (Yl h fun x6 h=>?_))
 refine Zi (.bool ((x6:Int) == 1)) (Zc h Qj8 ?_)
 rintro _ H9 ⟨r8,rfl,h⟩
 refine Zc h Qm ?_
 rintro _ H12 ⟨r10,r11,rfl,h⟩
 exact GL.ends (fun _ _ hf hs=>QC rfl hf hs ⟨rfl,h⟩)
 refine Zo (Zi (.bool ((x3:Int) == 2)) (Za (GL.nil (Yd h (fun u13 h=>?_) fun u13 h=>?_))))
 refine GC.region (Zf (Yl h fun x14 h=>?_))
 refine Zc h QkK ?_
 rintro _ H17 ⟨r16,rfl,h⟩
 refine Zc h Qm ?_
 rintro _ H20 ⟨r18,r19,rfl,h⟩
 exact GL.ends (fun _ _ hf hs=>QC rfl hf hs ⟨rfl,h⟩)
 refine Zo (Zi (.bool ((x3:Int) == 3)) (Za (GL.nil (Yd h (fun u21 h=>?_) fun u21 h=>?_))))
 refine Zo (Zf (Yl h fun x22 h=>?_))
 refine Zc h Qm ?_
 rintro _ H26 ⟨r24,r25,rfl,h⟩
 refine GL.nil (GC.region (Zc h Qq ?_))
 rintro _ H28 ⟨r27,rfl,h⟩
 exact GL.ends (fun _ _ hf hs=>QC rfl hf hs ⟨rfl,h⟩)
 refine Zo (Zi (.bool ((x3:Int) == 4)) (Za (GL.nil (Yd h (fun u29 h=>?_) fun u29 h=>?_))))
 refine GC.region (Zf (Yl h fun x30 h=>?_))
 refine Zc h QpG ?_
 rintro _ H32 ⟨rfl,h⟩
 exact GL.ends (fun _ _ hf hs=>QC rfl hf hs ⟨rfl,h⟩)
 refine Zo (Zi (.bool ((x3:Int) == 5)) (Za (GL.nil (Yd h (fun u33 h=>?_) fun u33 h=>?_))))
 refine GC.region (Yl h fun x34 h=>?_)
 refine Zf (Yl h fun x36 h=>?_)
 refine GL.callU (xv:=x34) (vs:=[slv x36]) h trivial rfl rfl rfl ?_
 rintro _ H38 ⟨rfl,h⟩
 exact GL.ends (fun _ _ hf hs=>QC rfl hf hs ⟨rfl,h⟩)
 refine Zo (Zf (Yl h fun x39 h=>?_))
 refine Zc h Qm ?_
 rintro _ H43 ⟨r41,r42,rfl,h⟩
 refine GL.nil (Zo (Zf (Yl h fun x44 h=>?_)))
 refine Zq (Zi (.bool (decide (((Sl.len x44:Int):Int) > 0))) (GL.nil (Yd h (fun u46 h=>?_) fun u46 h=>?_)))
 refine GC.region (Yl h fun x47 h=>?_)
 refine Zf (Yl h fun x49 h=>?_)
 refine GL.callU (xv:=x47) (vs:=[slv x49]) h trivial rfl rfl rfl ?_
 rintro _ H51 ⟨rfl,h⟩
 exact GL.ends (fun _ _ hf hs=>QC rfl hf hs ⟨rfl,h⟩)
 exact GC.ends (fun _ _ hf hs=>QC rfl hf hs ⟨rfl,h⟩)
def Qf2 (C:Ctx) (p_b:Bool) (K:Str→Heap→Prop) (H:Heap):Prop:=
 Qdk C p_b (fun r1 H2=>
 K r1 H2) H
theorem QjO (C p_b K H) (h:Qf2 C p_b K H):QeA C p_b K H:=by
 refine Ye Tryz.func212 rfl Tryz.ntmps212 [(0,.bool p_b)] (Zo (Za (GL.nil (Zo (Zm (Zc h QfZ ?_))))))
 rintro _ H2 ⟨r1,rfl,h⟩
 refine Za (GL.nil ?_)
 exact Y1 I3 ⟨r1,rfl,h⟩
def QlE (C:Ctx) (p_b:Option (Nat×Nat)) (p_s:Str) (K:Heap→Prop) (H:Heap):Prop:=
 Qo C p_b 34 (fun r1 H2=>
 lp (α:=Int) 0 H2 (fun x3 J4 H5=>
 ift (decide ((x3:Int) < (List.length p_s:Int)))
 (jn (α:=Unit) (fun x8 H9=>
 J4 (w .i64 (x3+1)) H9)
 (fun J7=>ixs p_s x3 fun c11=>
 ift ((((c11.toNat:Int):Int) == 34) || (((c11.toNat:Int):Int) == 92))
 (Qo C p_b 92 (fun r16 H17=>
 Qo C p_b (c11.toNat:Int) (fun r18 H19=>
 J7 () H19) H17) H5)
 (ift (((c11.toNat:Int):Int) == 10)
 (Qj C p_b [92,110] (fun r21 r22 H23=>
 J7 () H23) H5)
 (ift (((c11.toNat:Int):Int) == 9)
 (Qj C p_b [92,116] (fun r25 r26 H27=>
 J7 () H27) H5)
 (ift ((decide (((c11.toNat:Int):Int) ≥ 32)) && (decide (((c11.toNat:Int):Int)≤126)))
 (Qo C p_b (c11.toNat:Int) (fun r30 H31=>
 J7 () H31) H5)
 (Qj C p_b [92,120] (fun r32 r33 H34=>
 ixs [48,49,50,51,52,53,54,55,56,57,97,98,99,100,101,102] (sShr .u8 (c11.toNat:Int) 4) fun c35=>
 Qo C p_b (c35.toNat:Int) (fun r38 H39=>
 ixs [48,49,50,51,52,53,54,55,56,57,97,98,99,100,101,102] (bAnd .u8 (c11.toNat:Int) 15) fun c40=>
 Qo C p_b (c40.toNat:Int) (fun r43 H44=>
 J7 () H44) H39) H34) H5))))))
 (Qo C p_b 34 (fun r45 H46=>
 K H46) H5))) H
theorem Qpo (C p_b p_s K H) (h:QlE C p_b p_s K H):QiZ C p_b p_s K H:=by
 refine Ye Tryz.func214 rfl Tryz.ntmps214 [(0,pv p_b),(1,sv p_s)] (Zo (Zm (Zc h Qq ?_)))
 rintro _ H2 ⟨r1,rfl,h⟩
 refine GL.nil (GC.seq (Zo (Zm (Zr (Zm (GL.nil (GC.block (Yp h (fun x3=>[(10,.int .i64 x3),(0,pv p_b),(1,sv p_s),(9,.int .i64 (List.length p_s:Int))]) ?_))))))))
 intro x3 H5 J4 h
 refine Zo (Zi (.bool (decide ((x3:Int) < (List.length p_s:Int)))) (GL.nil (GC.seq (Yd h (fun hc6 h=>?_) fun hc6 h=>?_))))
 refine GC.skip ?_
 obtain ⟨J7,h,hR10⟩:=h
 refine GC.join (α:=Unit) J7 (fun _=>[(0,pv p_b),(1,sv p_s),(9,.int .i64 (List.length p_s:Int)),(10,.int .i64 x3)]) ?_ ?_
 refine GC.block (Zo (Zm (Za (GL.nil (Zo (Zm (Zm (Ys h fun c11 h=>?_))))))))
 refine Za (GL.nil (GC.block (Zo (Zm (Zi (.bool (((c11.toNat:Int):Int) == 34)) (Zm (GL.cut0 3 [(34,.bool ((((c11.toNat:Int):Int) == 34) || (((c11.toNat:Int):Int) == 92))),(0,pv p_b),(1,sv p_s),(5,.int .u8 (c11.toNat:Int)),(9,.int .i64 (List.length p_s:Int)),(10,.int .i64 x3)] ?_ ?_)))))))
 rcases Zb (((c11.toNat:Int):Int) == 34) with hc14 | hc14
 refine Zk hc14 (Zk hc14 (Zt hc14 ?_))
 exact GL.jump0 (fun _ _ h=>h) () rfl ⟨(by rw [hc14]; rfl),rfl,rfl,rfl,rfl,rfl,trivial⟩
 refine Zu hc14 Ym (Zu hc14 (OV.ibin (v:=.bool (((c11.toNat:Int):Int) == 92)) rfl rfl rfl) (Zn hc14 ?_))
 exact GL.jump0 (fun _ _ h=>h) () rfl ⟨(by rw [hc14]; rfl),rfl,rfl,rfl,rfl,rfl,trivial⟩
 refine Za (GL.nil (Yd h (fun hc15 h=>?_) fun hc15 h=>?_))
 refine Zo (Zm (Zc h Qq ?_))
 rintro _ H17 ⟨r16,rfl,h⟩
 refine GL.nil (GC.region (Zm (Zm (Zc h Qq ?_))))
 rintro _ H19 ⟨r18,rfl,h⟩
 exact Yj I3 () h
 refine Zo (Zm (Zi (.bool (((c11.toNat:Int):Int) == 10)) (Za (GL.nil (Yd h (fun hc20 h=>?_) fun hc20 h=>?_)))))
 refine GC.region (Zm (Zc h Qm ?_))
 rintro _ H23 ⟨r21,r22,rfl,h⟩
 exact Yj I3 () h
 refine Zo (Zm (Zi (.bool (((c11.toNat:Int):Int) == 9)) (Za (GL.nil (Yd h (fun hc24 h=>?_) fun hc24 h=>?_)))))
 refine GC.region (Zm (Zc h Qm ?_))
 rintro _ H27 ⟨r25,r26,rfl,h⟩
 exact Yj I3 () h
 refine Zo (Zm (Zi (.bool (decide (((c11.toNat:Int):Int) ≥ 32))) (Zm (GL.cut0 3 [(56,.bool ((decide (((c11.toNat:Int):Int) ≥ 32)) && (decide (((c11.toNat:Int):Int)≤126)))),(0,pv p_b),(1,sv p_s),(5,.int .u8 (c11.toNat:Int)),(9,.int .i64 (List.length p_s:Int)),(10,.int .i64 x3)] ?_ ?_))))
 rcases Zb (decide (((c11.toNat:Int):Int) ≥ 32)) with hc28 | hc28
 refine Zu hc28 Ym (Zu hc28 (OV.ibin (v:=.bool (decide (((c11.toNat:Int):Int)≤126))) rfl rfl rfl) (Zt hc28 ?_))
 exact GL.jump0 (fun _ _ h=>h) () rfl ⟨(by rw [hc28]; rfl),rfl,rfl,rfl,rfl,rfl,trivial⟩
 refine Zk hc28 (Zk hc28 (Zn hc28 ?_))
 exact GL.jump0 (fun _ _ h=>h) () rfl ⟨(by rw [hc28]; rfl),rfl,rfl,rfl,rfl,rfl,trivial⟩
 refine Za (GL.nil (Yd h (fun hc29 h=>?_) fun hc29 h=>?_))
 refine GC.region (Zm (Zm (Zc h Qq ?_)))
 rintro _ H31 ⟨r30,rfl,h⟩
 exact Yj I3 () h
 refine Zo (Zm (Zc h Qm ?_))
 rintro _ H34 ⟨r32,r33,rfl,h⟩
 refine GL.nil (Zo (Zm (Zm (Zv (OV.shr rfl rfl (by decide)) (Ys h fun c35 h=>?_)))))
 refine Zc h Qq ?_
 rintro _ H39 ⟨r38,rfl,h⟩
 refine GL.nil (GC.region (Zm (Zm (Zi (.int .u8 (bAnd .u8 (c11.toNat:Int) 15)) (Ys h fun c40 h=>?_)))))
 refine Zc h Qq ?_
 rintro _ H44 ⟨r43,rfl,h⟩
 exact Yj I3 () h
 intro x8 H9 h
 replace h:=hR10 x8 H9 h
 refine GC.region (Zi (.int .i64 (w .i64 (x3+1))) (Zm ?_))
 exact Yj I3 (w .i64 (x3+1)) h
 refine GC.exit_to (fun _ _ h=>h) (GC.region (Zm (Zc h Qq ?_)))
 rintro _ H46 ⟨r45,rfl,h⟩
 exact GL.ends (fun _ _ hf hs=>QC rfl hf hs ⟨rfl,h⟩)
def Qjn (C:Ctx) (p_s:Str) (K:Bool→Heap→Prop) (H:Heap):Prop:=
 K ((((p_s == ([110,101,103]:Str)) || (p_s == ([108,101,110]:Str))) || (p_s == ([98,105,103]:Str))) || (p_s == ([105,110,116]:Str))) H
theorem QnJ (C p_s K H) (h:Qjn C p_s K H):Qfm C p_s K H:=by
 refine Ye Tryz.func215 rfl Tryz.ntmps215 [(0,sv p_s)] (Zo (Za (GL.nil (Zo (Zm (Zv (OV.sbin (a:=p_s) (b:=([110,101,103]:Str)) (v:=.bool (p_s == ([110,101,103]:Str))) rfl rfl rfl) (Zm (GL.cut0 3 [(8,.bool ((p_s == ([110,101,103]:Str)) || (p_s == ([108,101,110]:Str)))),(0,sv p_s)] ?_ ?_))))))))
 rcases Zb (p_s == ([110,101,103]:Str)) with u1 | u1
 refine Zk u1 (Zk u1 (Zt u1 ?_))
 exact GL.jump0 (fun _ _ h=>h) () rfl ⟨(by rw [u1]; rfl),rfl,trivial⟩
 refine Zu u1 Ym (Zu u1 (OV.sbin (a:=p_s) (b:=([108,101,110]:Str)) (v:=.bool (p_s == ([108,101,110]:Str))) rfl rfl rfl) (Zn u1 ?_))
 exact GL.jump0 (fun _ _ h=>h) () rfl ⟨(by rw [u1]; rfl),rfl,trivial⟩
 refine Zm (GL.cut0 3 [(12,.bool (((p_s == ([110,101,103]:Str)) || (p_s == ([108,101,110]:Str))) || (p_s == ([98,105,103]:Str)))),(0,sv p_s)] ?_ ?_)
 rcases Zb ((p_s == ([110,101,103]:Str)) || (p_s == ([108,101,110]:Str))) with u2 | u2
 refine Zk u2 (Zk u2 (Zt u2 ?_))
 exact GL.jump0 (fun _ _ h=>h) () rfl ⟨(by rw [u2]; rfl),rfl,trivial⟩
 refine Zu u2 Ym (Zu u2 (OV.sbin (a:=p_s) (b:=([98,105,103]:Str)) (v:=.bool (p_s == ([98,105,103]:Str))) rfl rfl rfl) (Zn u2 ?_))
 exact GL.jump0 (fun _ _ h=>h) () rfl ⟨(by rw [u2]; rfl),rfl,trivial⟩
 refine Zm (GL.cut0 3 [(16,.bool ((((p_s == ([110,101,103]:Str)) || (p_s == ([108,101,110]:Str))) || (p_s == ([98,105,103]:Str))) || (p_s == ([105,110,116]:Str))))] ?_ ?_)
 rcases Zb (((p_s == ([110,101,103]:Str)) || (p_s == ([108,101,110]:Str))) || (p_s == ([98,105,103]:Str))) with u3 | u3
 refine Zk u3 (Zk u3 (Zt u3 ?_))
 exact GL.jump0 (fun _ _ h=>h) () rfl ⟨(by rw [u3]; rfl),trivial⟩
 refine Zu u3 Ym (Zu u3 (OV.sbin (a:=p_s) (b:=([105,110,116]:Str)) (v:=.bool (p_s == ([105,110,116]:Str))) rfl rfl rfl) (Zn u3 ?_))
 exact GL.jump0 (fun _ _ h=>h) () rfl ⟨(by rw [u3]; rfl),trivial⟩
 refine Za (GL.nil ?_)
 exact Y1 I3 ⟨((((p_s == ([110,101,103]:Str)) || (p_s == ([108,101,110]:Str))) || (p_s == ([98,105,103]:Str))) || (p_s == ([105,110,116]:Str))),rfl,h⟩
def QeR (C:Ctx) (p_w:Option (Nat×Nat)) (p_l:Sl) (p_write:Value) (K:Heap→Prop) (H:Heap):Prop:=
 nck p_w fun p1=>
 Qo C (some (p1.1,p1.2+0)) 40 (fun r3 H4=>
 QeD C p_w p_l [44,32] p_write (fun H5=>
 nck p_w fun p6=>
 Qo C (some (p6.1,p6.2+0)) 41 (fun r8 H9=>
 K H9) H5) H4) H
theorem Qhz (C p_w p_l p_write K H) (h:QeR C p_w p_l p_write K H):QcK C p_w p_l p_write K H:=by
 refine Ye Tryz.func216 rfl Tryz.ntmps216 [(0,pv p_w),(1,slv p_l),(2,p_write)] (Zo (Zm ?_))
 obtain ⟨p1,hp2,h⟩:=h
 refine Zv (OV.nilCheck (q:=p_w) rfl hp2) (Zf (Zc h Qq ?_))
 rintro _ H4 ⟨r3,rfl,h⟩
 refine GL.nil (Zo (Zm (Zm (Zm (Zc h Qkd ?_)))))
 rintro _ H5 ⟨rfl,h⟩
 refine GL.nil (GC.region (Zm ?_))
 obtain ⟨p6,hp7,h⟩:=h
 refine Zv (OV.nilCheck (q:=p_w) rfl hp7) (Zf (Zc h Qq ?_))
 rintro _ H9 ⟨r8,rfl,h⟩
 exact GL.ends (fun _ _ hf hs=>QC rfl hf hs ⟨rfl,h⟩)
def QmC (C:Ctx) (p_v:Qb) (K:Str→Heap→Prop) (H:Heap):Prop:=
 nw (Qb.c p_v) (fun b1 H2=>
 ldI H2 .u8 ((b1,0).1,(b1,0).2+0) fun x3=>
 ift ((x3:Int) == 1)
 (ldI H2 .i64 ((b1,0).1,(b1,0).2+1) fun x6=>
 ift ((x6:Int) == 1)
 (K [116,114,117,101] H2)
 (K [102,97,108,115,101] H2))
 (ift ((x3:Int) == 2)
 (ldI H2 .i64 ((b1,0).1,(b1,0).2+1) fun x10=>
 Qb6 C x10 (fun r12 H13=>
 K r12 H13) H2)
 (ift ((x3:Int) == 3)
 (ldS H2 ((b1,0).1,(b1,0).2+2) fun x15=>
 catOk x15 ([98]:Str)∧
 K (x15++([98]:Str)) H2)
 (ift ((x3:Int) == 4)
 (ldS H2 ((b1,0).1,(b1,0).2+2) fun x19=>
 Qc7 C x19 (fun r21 H22=>
 K r21 H22) H2)
 (ift ((x3:Int) == 6)
 (ldL H2 ((b1,0).1,(b1,0).2+3) fun x24=>
 ift (((Sl.len x24:Int):Int) == 0)
 (ldS H2 ((b1,0).1,(b1,0).2+2) fun x27=>
 K x27 H2)
 (dr H2 fun Hs29=>
 ldS Hs29 ((b1,0).1,(b1,0).2+2) fun x31=>
 catOk x31 ([40]:Str)∧
 ldL Hs29 ((b1,0).1,(b1,0).2+3) fun x34=>
 Qng C x34 (fun r37 H38=>
 Heap.le Hs29 H38∧
 catOk (x31++([40]:Str)) r37∧
 catOk ((x31++([40]:Str))++r37) ([41]:Str)∧
 K (((x31++([40]:Str))++r37)++([41]:Str)) H38) H2))
 (ldL H2 ((b1,0).1,(b1,0).2+3) fun x41=>
 Qng C x41 (fun r43 H44=>
 catOk ([40]:Str) r43∧
 catOk (([40]:Str)++r43) ([41]:Str)∧
 K ((([40]:Str)++r43)++([41]:Str)) H44) H2)))))) H
theorem Qp8 (C p_v K H) (h:QmC C p_v K H):Qe0 C p_v K H:=by
 refine Ye Tryz.func217 rfl Tryz.ntmps217 [(0,.agg (Qb.c p_v).toArray)] (Zo (GL.box (v:=.agg (Qb.c p_v).toArray) (cs:=Qb.c p_v) h trivial rfl rfl rfl ?_))
 intro b1 H2 h
 refine Za (GL.nil (GC.seq (Zo (Zf (Yl h fun x3 h=>?_)))))
 refine GL.nil (GC.block (Zo (Zi (.bool ((x3:Int) == 1)) (Za (GL.nil (Yd h (fun u5 h=>?_) fun u5 h=>?_))))))
 refine GC.seq (Zo (Zf (Yl h fun x6 h=>?_)))
 refine Zi (.bool ((x6:Int) == 1)) (GL.nil (Yd h (fun u8 h=>?_) fun u8 h=>?_))
 refine Zo (Za (GL.nil ?_))
 exact Y1 I3 ⟨[116,114,117,101],rfl,h⟩
 refine GC.skip (Zo (Za (GL.nil ?_)))
 exact Y1 I3 ⟨[102,97,108,115,101],rfl,h⟩
 refine Zo (Zi (.bool ((x3:Int) == 2)) (Za (GL.nil (Yd h (fun u9 h=>?_) fun u9 h=>?_))))
 refine Zo (Zf (Yl h fun x10 h=>?_))
 refine Zc h Qhg ?_
 rintro _ H13 ⟨r12,rfl,h⟩
 refine Za (GL.nil ?_)
 exact Y1 I3 ⟨r12,rfl,h⟩
 refine Zo (Zi (.bool ((x3:Int) == 3)) (Za (GL.nil (Yd h (fun u14 h=>?_) fun u14 h=>?_))))
 refine Zo (Zf (Yl h fun x15 h=>?_))
 obtain ⟨hl17,h⟩:=h
 refine Zv (OV.cat (a:=x15) (b:=([98]:Str)) rfl rfl hl17) (Za (GL.nil ?_))
 exact Y1 I3 ⟨(x15++([98]:Str)),rfl,h⟩
 refine Zo (Zi (.bool ((x3:Int) == 4)) (Za (GL.nil (Yd h (fun u18 h=>?_) fun u18 h=>?_))))
 refine Zo (Zf (Yl h fun x19 h=>?_))
 refine Zc h Qpr ?_
 rintro _ H22 ⟨r21,rfl,h⟩
 refine Za (GL.nil ?_)
 exact Y1 I3 ⟨r21,rfl,h⟩
 refine Zo (Zi (.bool ((x3:Int) == 6)) (Za (GL.nil (Yd h (fun u23 h=>?_) fun u23 h=>?_))))
 refine GC.seq (Zo (Zf (Yl h fun x24 h=>?_)))
 refine Zq (Zi (.bool (((Sl.len x24:Int):Int) == 0)) (GL.nil (Yd h (fun u26 h=>?_) fun u26 h=>?_)))
 refine Zo (Zf (Yl h fun x27 h=>?_))
 refine Za (GL.nil ?_)
 exact Y1 I3 ⟨x27,rfl,h⟩
 refine GC.skip (GC.seq ?_)
 obtain ⟨Hs29,hle30,h⟩:=h
 refine GC.any (Hs:=Hs29) (by kernel_rfl) hle30 (Zp 0 rfl Yf ?_)
 obtain ⟨x31,v32,h⟩:=h
 refine Zp 1 rfl (Yo v32) ?_
 obtain ⟨hl33,h⟩:=h
 refine Zp 2 rfl (OV.cat (a:=x31) (b:=([40]:Str)) rfl rfl hl33) (Zp 3 rfl Yf ?_)
 obtain ⟨x34,v35,h⟩:=h
 refine Zp 4 rfl (Yo v35) (GA.eff 5 rfl (by kernel_rfl) (Zc h Qml ?_))
 rintro _ H38 ⟨r37,rfl,h⟩
 obtain ⟨hle36,h⟩:=h
 refine GA.back hle36 ?_
 obtain ⟨hl39,h⟩:=h
 refine Zp 6 rfl (OV.cat (a:=(x31++([40]:Str))) (b:=r37) rfl rfl hl39) ?_
 obtain ⟨hl40,h⟩:=h
 refine Zp 7 rfl (OV.cat (a:=((x31++([40]:Str))++r37)) (b:=([41]:Str)) rfl rfl hl40) (Zp 8 rfl Ya (GA.done (by kernel_rfl) (GL.nil ?_)))
 exact Y1 I3 ⟨(((x31++([40]:Str))++r37)++([41]:Str)),rfl,h⟩
 refine GC.skip_to (fun _ _ h=>h) (Zo (Zf ?_))
 refine Yl h fun x41 h=>?_
 refine Zc h Qml ?_
 rintro _ H44 ⟨r43,rfl,h⟩
 obtain ⟨hl45,h⟩:=h
 refine Zv (OV.cat (a:=([40]:Str)) (b:=r43) rfl rfl hl45) ?_
 obtain ⟨hl46,h⟩:=h
 refine Zv (OV.cat (a:=(([40]:Str)++r43)) (b:=([41]:Str)) rfl rfl hl46) (Za (GL.nil ?_))
 exact Y1 I3 ⟨((([40]:Str)++r43)++([41]:Str)),rfl,h⟩
def Qe9 (C:Ctx) (p_l:Sl) (p_depth:Value) (K:Int→Heap→Prop) (H:Heap):Prop:=
 lp (α:=Int×Int) (0,0) H (fun x1 J2 H3=>
 ift (decide ((x1.2:Int) < (Sl.len p_l:Int)))
 (ixa p_l x1.2 fun p5=>
 ldT H3 Qe.c (p5.1,p5.2+(x1.2:Int).toNat*2) fun x10=>
 nw (Qe.c Qe.zero) (fun b12 H13=>
 stT (b12,0) (Qe.c x10) (fun H14=>
 ldT H14 Qe.c (b12,0) fun x15=>
 callU Tryz.prog C p_depth [.agg (Qe.c x15).toArray] H14 (fun v H18=>∃ (r17:Int),v=.int .i64 r17∧
 J2 ((if r17 > x1.1 then r17 else x1.1:Int),(w .i64 (x1.2+1))) H18)) H13) H3)
 (K x1.1 H3))
theorem Qh3 (C p_l p_depth K H) (h:Qe9 C p_l p_depth K H):Q9 C p_l p_depth K H:=by
 refine Ye Tryz.func218 rfl Tryz.ntmps218 [(0,slv p_l),(1,p_depth)] (Zo (Za (GL.nil (Zo (Za (GL.nil (GC.seq (Zo (Zm (Zq (Zm (GL.nil (GC.block (Yp h (fun x1=>[(5,.int .i64 x1.1),(10,.int .i64 x1.2),(1,p_depth),(8,slv p_l),(9,.int .i64 (Sl.len p_l:Int))]) ?_))))))))))))))
 intro x1 H3 J2 h
 refine Zo (Zi (.bool (decide ((x1.2:Int) < (Sl.len p_l:Int)))) (GL.nil (GC.seq (Yd h (fun u4 h=>?_) fun u4 h=>?_))))
 refine GC.skip (GC.seq (GC.block (Zo (Yx h fun p5 h=>?_))))
 obtain ⟨x10,v11,h⟩:=h
 refine Zv (OV.loadT rfl rfl rfl v11) (GL.alloc (cs:=Qe.c Qe.zero) h trivial rfl rfl rfl ?_)
 intro b12 H13 h
 refine GL.storeT (p:=(b12,0)) (vs:=Qe.c x10) h trivial rfl rfl rfl rfl ?_
 intro H14 h
 refine GL.nil (GC.region (Zm (Zm ?_)))
 obtain ⟨x15,v16,h⟩:=h
 refine Zv (OV.loadT rfl rfl rfl v16) (GL.callU (xv:=p_depth) (vs:=[.agg (Qe.c x15).toArray]) h trivial rfl rfl rfl ?_)
 rintro _ H18 ⟨r17,rfl,h⟩
 refine Zv (OV.maxI rfl rfl) (Za (GL.nil_to (fun _ _ h=>h) (GC.region (Zi (.int .i64 (w .i64 (x1.2+1))) (Zm ?_)))))
 exact Yj I3 ((if r17 > x1.1 then r17 else x1.1:Int),(w .i64 (x1.2+1))) h
 refine GC.exit_to (fun _ _ h=>h) (Zo (Zm (Za (GL.nil ?_))))
 exact Y1 I3 ⟨x1.1,rfl,h⟩
end
end Sx
end
