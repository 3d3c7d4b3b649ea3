/-
  Texts of this family, one behind the other: Sh4, Sh, FmtI, CntJ, ValQ, ValU, ValP1.
-/
import Derived.Test.YtnomkabppjlbfaaGreatDoorAT3
import Derived.Shelf.Strconv.Itoa4
import Derived.Shelf.Strings.Search3
import Derived.Shelf.Vars
noncomputable section
set_option linter.unusedVariables false
set_option linter.unusedSimpArgs false
set_option maxRecDepth 10000
namespace Sx
section
set_option maxRecDepth 100000
open Go Go.Proofs
def QdZ (C : Ctx) (p_l : Sl) (p_depth : Value) (K : Int → Heap → Prop) (H : Heap) : Prop :=
 lp (α := Int × Int) (0, 0) H (fun x1 J2 H3 =>
 ift (decide ((x1.2 : Int) < (Sl.len p_l : Int)))
 (ixa p_l x1.2 fun p5 =>
 ldT H3 Qh.c (p5.1, p5.2 + (x1.2 : Int).toNat * 6) fun x10 =>
 nw (Qh.c Qh.zero) (fun b12 H13 =>
 stT (b12, 0) (Qh.c x10) (fun H14 =>
 ldT H14 Qh.c (b12, 0) fun x15 =>
 callU Tryz.prog C p_depth [.agg (Qh.c x15).toArray] H14 (fun v H18 => ∃ (r17 : Int), v = .int .i64 r17 ∧
 J2 ((if r17 > x1.1 then r17 else x1.1 : Int), (w .i64 (x1.2 + 1))) H18)) H13) H3)
 (K x1.1 H3))
theorem QgL (C p_l p_depth K H) (h : QdZ C p_l p_depth K H) : QY C p_l p_depth K H := by
 refine Ye Tryz.func119 rfl Tryz.ntmps119 [(0, slv p_l), (1, p_depth)] (Zo (Za (GL.nil (Zo (Za (GL.nil (GC.seq (Zo (Zm (Zq (Zm (GL.nil (GC.block (Yp h (fun x1 => [(5, .int .i64 x1.1), (10, .int .i64 x1.2), (1, p_depth), (8, slv p_l), (9, .int .i64 (Sl.len p_l : Int))]) ?_))))))))))))))
 intro x1 H3 J2 h
 refine Zo (Zi (.bool (decide ((x1.2 : Int) < (Sl.len p_l : Int)))) (GL.nil (GC.seq (Yd h (fun u4 h => ?_) fun u4 h => ?_))))
 refine GC.skip (GC.seq (GC.block (Zo (Yx h fun p5 h => ?_))))
 obtain ⟨x10, v11, h⟩ := h
 refine Zv (OV.loadT rfl rfl rfl v11) (GL.alloc (cs := Qh.c Qh.zero) h trivial rfl rfl rfl ?_)
 intro b12 H13 h
 refine GL.storeT (p := (b12, 0)) (vs := Qh.c x10) h trivial rfl rfl rfl rfl ?_
 intro H14 h
 refine GL.nil (GC.region (Zm (Zm ?_)))
 obtain ⟨x15, v16, h⟩ := h
 refine Zv (OV.loadT rfl rfl rfl v16) (GL.callU (xv := p_depth) (vs := [.agg (Qh.c x15).toArray]) h trivial rfl rfl rfl ?_)
 rintro _ H18 ⟨r17, rfl, h⟩
 refine Zv (OV.maxI rfl rfl) (Za (GL.nil_to (fun _ _ h => h) (GC.region (Zi (.int .i64 (w .i64 (x1.2 + 1))) (Zm ?_)))))
 exact Yj I3 ((if r17 > x1.1 then r17 else x1.1 : Int), (w .i64 (x1.2 + 1))) h
 refine GC.exit_to (fun _ _ h => h) (Zo (Zm (Za (GL.nil ?_))))
 exact Y1 I3 ⟨x1.1, rfl, h⟩
def Qkr (C : Ctx) (p_x : Qh) (K : Int → Heap → Prop) (H : Heap) : Prop :=
 nw (Qh.c p_x) (fun b1 H2 =>
 ldL H2 ((b1, 0).1, (b1, 0).2 + 5) fun x3 =>
 QD C x3 (.func (.func 118) (List.toArray []) (List.toArray []) : Value) (fun r5 H6 =>
 K r5 H6) H2) H
theorem Qnz (C p_x K H) (h : Qkr C p_x K H) : QdR C p_x K H := by
 refine Ye Tryz.func120 rfl Tryz.ntmps120 [(0, .agg (Qh.c p_x).toArray)] (Zo (GL.box (v := .agg (Qh.c p_x).toArray) (cs := Qh.c p_x) h trivial rfl rfl rfl ?_))
 intro b1 H2 h
 refine Za (GL.nil (Zo (Zf (Yl h fun x3 h => ?_))))
 refine Zc h Qdj ?_
 rintro _ H6 ⟨r5, rfl, h⟩
 refine Za (GL.nil ?_)
 exact Y1 I3 ⟨r5, rfl, h⟩
def QeH (C : Ctx) (p_l : Sl) (p_depth : Value) (K : Int → Heap → Prop) (H : Heap) : Prop :=
 lp (α := Int × Int) (0, 0) H (fun x1 J2 H3 =>
 ift (decide ((x1.2 : Int) < (Sl.len p_l : Int)))
 (ixa p_l x1.2 fun p5 =>
 ldT H3 Qk.c (p5.1, p5.2 + (x1.2 : Int).toNat * 6) fun x10 =>
 nw (Qk.c Qk.zero) (fun b12 H13 =>
 stT (b12, 0) (Qk.c x10) (fun H14 =>
 ldT H14 Qk.c (b12, 0) fun x15 =>
 callU Tryz.prog C p_depth [.agg (Qk.c x15).toArray] H14 (fun v H18 => ∃ (r17 : Int), v = .int .i64 r17 ∧
 J2 ((if r17 > x1.1 then r17 else x1.1 : Int), (w .i64 (x1.2 + 1))) H18)) H13) H3)
 (K x1.1 H3))
theorem QhB (C p_l p_depth K H) (h : QeH C p_l p_depth K H) : Q7 C p_l p_depth K H := by
 refine Ye Tryz.func121 rfl Tryz.ntmps121 [(0, slv p_l), (1, p_depth)] (Zo (Za (GL.nil (Zo (Za (GL.nil (GC.seq (Zo (Zm (Zq (Zm (GL.nil (GC.block (Yp h (fun x1 => [(5, .int .i64 x1.1), (10, .int .i64 x1.2), (1, p_depth), (8, slv p_l), (9, .int .i64 (Sl.len p_l : Int))]) ?_))))))))))))))
 intro x1 H3 J2 h
 refine Zo (Zi (.bool (decide ((x1.2 : Int) < (Sl.len p_l : Int)))) (GL.nil (GC.seq (Yd h (fun u4 h => ?_) fun u4 h => ?_))))
 refine GC.skip (GC.seq (GC.block (Zo (Yx h fun p5 h => ?_))))
 obtain ⟨x10, v11, h⟩ := h
 refine Zv (OV.loadT rfl rfl rfl v11) (GL.alloc (cs := Qk.c Qk.zero) h trivial rfl rfl rfl ?_)
 intro b12 H13 h
 refine GL.storeT (p := (b12, 0)) (vs := Qk.c x10) h trivial rfl rfl rfl rfl ?_
 intro H14 h
 refine GL.nil (GC.region (Zm (Zm ?_)))
 obtain ⟨x15, v16, h⟩ := h
 refine Zv (OV.loadT rfl rfl rfl v16) (GL.callU (xv := p_depth) (vs := [.agg (Qk.c x15).toArray]) h trivial rfl rfl rfl ?_)
 rintro _ H18 ⟨r17, rfl, h⟩
 refine Zv (OV.maxI rfl rfl) (Za (GL.nil_to (fun _ _ h => h) (GC.region (Zi (.int .i64 (w .i64 (x1.2 + 1))) (Zm ?_)))))
 exact Yj I3 ((if r17 > x1.1 then r17 else x1.1 : Int), (w .i64 (x1.2 + 1))) h
 refine GC.exit_to (fun _ _ h => h) (Zo (Zm (Za (GL.nil ?_))))
 exact Y1 I3 ⟨x1.1, rfl, h⟩
def Qks (C : Ctx) (p_x : Qk) (K : Int → Heap → Prop) (H : Heap) : Prop :=
 nw (Qk.c p_x) (fun b1 H2 =>
 dr H2 fun Hs3 =>
 ldL Hs3 ((b1, 0).1, (b1, 0).2 + 3) fun x5 =>
 ldL Hs3 ((b1, 0).1, (b1, 0).2 + 5) fun x7 =>
 QH C x5 (.func (.func 91) (List.toArray []) (List.toArray []) : Value) (fun r10 H11 =>
 Heap.le Hs3 H11 ∧
 QF C x7 (.func (.func 125) (List.toArray []) (List.toArray []) : Value) (fun r13 H14 =>
 Heap.le Hs3 H14 ∧
 K (if r13 > r10 then r13 else r10 : Int) H14) H11) H2) H
theorem QnA (C p_x K H) (h : Qks C p_x K H) : QdS C p_x K H := by
 refine Ye Tryz.func122 rfl Tryz.ntmps122 [(0, .agg (Qk.c p_x).toArray)] (Zo (GL.box (v := .agg (Qk.c p_x).toArray) (cs := Qk.c p_x) h trivial rfl rfl rfl ?_))
 intro b1 H2 h
 refine Za (GL.nil (GC.seq ?_))
 obtain ⟨Hs3, hle4, h⟩ := h
 refine GC.any (Hs := Hs3) (by kernel_rfl) hle4 (Zp 0 rfl Yf ?_)
 obtain ⟨x5, v6, h⟩ := h
 refine Zp 1 rfl (Yo v6) (Zp 3 rfl Yf ?_)
 obtain ⟨x7, v8, h⟩ := h
 refine Zp 4 rfl (Yo v8) (GA.eff 2 rfl (by kernel_rfl) (Zc h Qcx ?_))
 rintro _ H11 ⟨r10, rfl, h⟩
 obtain ⟨hle9, h⟩ := h
 refine GA.back hle9 (GA.eff 5 rfl (by kernel_rfl) (Zc h QdE ?_))
 rintro _ H14 ⟨r13, rfl, h⟩
 obtain ⟨hle12, h⟩ := h
 refine GA.back hle12 (Zp 6 rfl (OV.maxI rfl rfl) (Zp 7 rfl Ya (GA.done (by kernel_rfl) (GL.nil ?_))))
 exact Y1 I3 ⟨(if r13 > r10 then r13 else r10 : Int), rfl, h⟩
def QeG (C : Ctx) (p_l : Sl) (p_depth : Value) (K : Int → Heap → Prop) (H : Heap) : Prop :=
 lp (α := Int × Int) (0, 0) H (fun x1 J2 H3 =>
 ift (decide ((x1.2 : Int) < (Sl.len p_l : Int)))
 (ixa p_l x1.2 fun p5 =>
 ldT H3 Qa.c (p5.1, p5.2 + (x1.2 : Int).toNat * 9) fun x10 =>
 nw (Qa.c Qa.zero) (fun b12 H13 =>
 stT (b12, 0) (Qa.c x10) (fun H14 =>
 ldT H14 Qa.c (b12, 0) fun x15 =>
 callU Tryz.prog C p_depth [.agg (Qa.c x15).toArray] H14 (fun v H18 => ∃ (r17 : Int), v = .int .i64 r17 ∧
 J2 ((if r17 > x1.1 then r17 else x1.1 : Int), (w .i64 (x1.2 + 1))) H18)) H13) H3)
 (K x1.1 H3))
theorem QhA (C p_l p_depth K H) (h : QeG C p_l p_depth K H) : QH C p_l p_depth K H := by
 refine Ye Tryz.func123 rfl Tryz.ntmps123 [(0, slv p_l), (1, p_depth)] (Zo (Za (GL.nil (Zo (Za (GL.nil (GC.seq (Zo (Zm (Zq (Zm (GL.nil (GC.block (Yp h (fun x1 => [(5, .int .i64 x1.1), (10, .int .i64 x1.2), (1, p_depth), (8, slv p_l), (9, .int .i64 (Sl.len p_l : Int))]) ?_))))))))))))))
 intro x1 H3 J2 h
 refine Zo (Zi (.bool (decide ((x1.2 : Int) < (Sl.len p_l : Int)))) (GL.nil (GC.seq (Yd h (fun u4 h => ?_) fun u4 h => ?_))))
 refine GC.skip (GC.seq (GC.block (Zo (Yx h fun p5 h => ?_))))
 obtain ⟨x10, v11, h⟩ := h
 refine Zv (OV.loadT rfl rfl rfl v11) (GL.alloc (cs := Qa.c Qa.zero) h trivial rfl rfl rfl ?_)
 intro b12 H13 h
 refine GL.storeT (p := (b12, 0)) (vs := Qa.c x10) h trivial rfl rfl rfl rfl ?_
 intro H14 h
 refine GL.nil (GC.region (Zm (Zm ?_)))
 obtain ⟨x15, v16, h⟩ := h
 refine Zv (OV.loadT rfl rfl rfl v16) (GL.callU (xv := p_depth) (vs := [.agg (Qa.c x15).toArray]) h trivial rfl rfl rfl ?_)
 rintro _ H18 ⟨r17, rfl, h⟩
 refine Zv (OV.maxI rfl rfl) (Za (GL.nil_to (fun _ _ h => h) (GC.region (Zi (.int .i64 (w .i64 (x1.2 + 1))) (Zm ?_)))))
 exact Yj I3 ((if r17 > x1.1 then r17 else x1.1 : Int), (w .i64 (x1.2 + 1))) h
 refine GC.exit_to (fun _ _ h => h) (Zo (Zm (Za (GL.nil ?_))))
 exact Y1 I3 ⟨x1.1, rfl, h⟩
def QdH (C : Ctx) (p_l : Sl) (p_depth : Value) (K : Int → Heap → Prop) (H : Heap) : Prop :=
 lp (α := Int × Int) (0, 0) H (fun x1 J2 H3 =>
 ift (decide ((x1.2 : Int) < (Sl.len p_l : Int)))
 (ixa p_l x1.2 fun p5 =>
 ldT H3 Qd.c (p5.1, p5.2 + (x1.2 : Int).toNat * 5) fun x10 =>
 nw (Qd.c Qd.zero) (fun b12 H13 =>
 stT (b12, 0) (Qd.c x10) (fun H14 =>
 ldT H14 Qd.c (b12, 0) fun x15 =>
 callU Tryz.prog C p_depth [.agg (Qd.c x15).toArray] H14 (fun v H18 => ∃ (r17 : Int), v = .int .i64 r17 ∧
 J2 ((if r17 > x1.1 then r17 else x1.1 : Int), (w .i64 (x1.2 + 1))) H18)) H13) H3)
 (K x1.1 H3))
theorem Qgo (C p_l p_depth K H) (h : QdH C p_l p_depth K H) : QF C p_l p_depth K H := by
 refine Ye Tryz.func124 rfl Tryz.ntmps124 [(0, slv p_l), (1, p_depth)] (Zo (Za (GL.nil (Zo (Za (GL.nil (GC.seq (Zo (Zm (Zq (Zm (GL.nil (GC.block (Yp h (fun x1 => [(5, .int .i64 x1.1), (10, .int .i64 x1.2), (1, p_depth), (8, slv p_l), (9, .int .i64 (Sl.len p_l : Int))]) ?_))))))))))))))
 intro x1 H3 J2 h
 refine Zo (Zi (.bool (decide ((x1.2 : Int) < (Sl.len p_l : Int)))) (GL.nil (GC.seq (Yd h (fun u4 h => ?_) fun u4 h => ?_))))
 refine GC.skip (GC.seq (GC.block (Zo (Yx h fun p5 h => ?_))))
 obtain ⟨x10, v11, h⟩ := h
 refine Zv (OV.loadT rfl rfl rfl v11) (GL.alloc (cs := Qd.c Qd.zero) h trivial rfl rfl rfl ?_)
 intro b12 H13 h
 refine GL.storeT (p := (b12, 0)) (vs := Qd.c x10) h trivial rfl rfl rfl rfl ?_
 intro H14 h
 refine GL.nil (GC.region (Zm (Zm ?_)))
 obtain ⟨x15, v16, h⟩ := h
 refine Zv (OV.loadT rfl rfl rfl v16) (GL.callU (xv := p_depth) (vs := [.agg (Qd.c x15).toArray]) h trivial rfl rfl rfl ?_)
 rintro _ H18 ⟨r17, rfl, h⟩
 refine Zv (OV.maxI rfl rfl) (Za (GL.nil_to (fun _ _ h => h) (GC.region (Zi (.int .i64 (w .i64 (x1.2 + 1))) (Zm ?_)))))
 exact Yj I3 ((if r17 > x1.1 then r17 else x1.1 : Int), (w .i64 (x1.2 + 1))) h
 refine GC.exit_to (fun _ _ h => h) (Zo (Zm (Za (GL.nil ?_))))
 exact Y1 I3 ⟨x1.1, rfl, h⟩
def Qf9 (C : Ctx) (p_x : Qd) (K : Int → Heap → Prop) (H : Heap) : Prop :=
 nw (Qd.c p_x) (fun b1 H2 =>
 ldL H2 ((b1, 0).1, (b1, 0).2 + 4) fun x3 =>
 QH C x3 (.func (.func 91) (List.toArray []) (List.toArray []) : Value) (fun r5 H6 =>
 K r5 H6) H2) H
theorem QjR (C p_x K H) (h : Qf9 C p_x K H) : Qbf C p_x K H := by
 refine Ye Tryz.func125 rfl Tryz.ntmps125 [(0, .agg (Qd.c p_x).toArray)] (Zo (GL.box (v := .agg (Qd.c p_x).toArray) (cs := Qd.c p_x) h trivial rfl rfl rfl ?_))
 intro b1 H2 h
 refine Za (GL.nil (Zo (Zf (Yl h fun x3 h => ?_))))
 refine Zc h Qcx ?_
 rintro _ H6 ⟨r5, rfl, h⟩
 refine Za (GL.nil ?_)
 exact Y1 I3 ⟨r5, rfl, h⟩
def Qeo (C : Ctx) (p_l : Sl) (p_depth : Value) (K : Int → Heap → Prop) (H : Heap) : Prop :=
 lp (α := Int × Int) (0, 0) H (fun x1 J2 H3 =>
 ift (decide ((x1.2 : Int) < (Sl.len p_l : Int)))
 (ixa p_l x1.2 fun p5 =>
 ldT H3 Qj.c (p5.1, p5.2 + (x1.2 : Int).toNat * 4) fun x10 =>
 nw (Qj.c Qj.zero) (fun b12 H13 =>
 stT (b12, 0) (Qj.c x10) (fun H14 =>
 ldT H14 Qj.c (b12, 0) fun x15 =>
 callU Tryz.prog C p_depth [.agg (Qj.c x15).toArray] H14 (fun v H18 => ∃ (r17 : Int), v = .int .i64 r17 ∧
 J2 ((if r17 > x1.1 then r17 else x1.1 : Int), (w .i64 (x1.2 + 1))) H18)) H13) H3)
 (K x1.1 H3))
theorem Qhg (C p_l p_depth K H) (h : Qeo C p_l p_depth K H) : Q1 C p_l p_depth K H := by
 refine Ye Tryz.func126 rfl Tryz.ntmps126 [(0, slv p_l), (1, p_depth)] (Zo (Za (GL.nil (Zo (Za (GL.nil (GC.seq (Zo (Zm (Zq (Zm (GL.nil (GC.block (Yp h (fun x1 => [(5, .int .i64 x1.1), (10, .int .i64 x1.2), (1, p_depth), (8, slv p_l), (9, .int .i64 (Sl.len p_l : Int))]) ?_))))))))))))))
 intro x1 H3 J2 h
 refine Zo (Zi (.bool (decide ((x1.2 : Int) < (Sl.len p_l : Int)))) (GL.nil (GC.seq (Yd h (fun u4 h => ?_) fun u4 h => ?_))))
 refine GC.skip (GC.seq (GC.block (Zo (Yx h fun p5 h => ?_))))
 obtain ⟨x10, v11, h⟩ := h
 refine Zv (OV.loadT rfl rfl rfl v11) (GL.alloc (cs := Qj.c Qj.zero) h trivial rfl rfl rfl ?_)
 intro b12 H13 h
 refine GL.storeT (p := (b12, 0)) (vs := Qj.c x10) h trivial rfl rfl rfl rfl ?_
 intro H14 h
 refine GL.nil (GC.region (Zm (Zm ?_)))
 obtain ⟨x15, v16, h⟩ := h
 refine Zv (OV.loadT rfl rfl rfl v16) (GL.callU (xv := p_depth) (vs := [.agg (Qj.c x15).toArray]) h trivial rfl rfl rfl ?_)
 rintro _ H18 ⟨r17, rfl, h⟩
 refine Zv (OV.maxI rfl rfl) (Za (GL.nil_to (fun _ _ h => h) (GC.region (Zi (.int .i64 (w .i64 (x1.2 + 1))) (Zm ?_)))))
 exact Yj I3 ((if r17 > x1.1 then r17 else x1.1 : Int), (w .i64 (x1.2 + 1))) h
 refine GC.exit_to (fun _ _ h => h) (Zo (Zm (Za (GL.nil ?_))))
 exact Y1 I3 ⟨x1.1, rfl, h⟩
def Qkt (C : Ctx) (p_x : Qj) (K : Int → Heap → Prop) (H : Heap) : Prop :=
 nw (Qj.c p_x) (fun b1 H2 =>
 ldL H2 ((b1, 0).1, (b1, 0).2 + 3) fun x3 =>
 QF C x3 (.func (.func 125) (List.toArray []) (List.toArray []) : Value) (fun r5 H6 =>
 K r5 H6) H2) H
theorem QnB (C p_x K H) (h : Qkt C p_x K H) : QdT C p_x K H := by
 refine Ye Tryz.func127 rfl Tryz.ntmps127 [(0, .agg (Qj.c p_x).toArray)] (Zo (GL.box (v := .agg (Qj.c p_x).toArray) (cs := Qj.c p_x) h trivial rfl rfl rfl ?_))
 intro b1 H2 h
 refine Za (GL.nil (Zo (Zf (Yl h fun x3 h => ?_))))
 refine Zc h QdE ?_
 rintro _ H6 ⟨r5, rfl, h⟩
 refine Za (GL.nil ?_)
 exact Y1 I3 ⟨r5, rfl, h⟩
def Ql2 (C : Ctx) (p_s : Str) (K : Bool → Heap → Prop) (H : Heap) : Prop :=
 lp (α := Int) 0 H (fun x1 J2 H3 =>
 ift (decide ((x1 : Int) < (List.length p_s : Int)))
 (ixs p_s x1 fun c5 =>
 ift (!(((((decide (((c5.toNat : Int) : Int) ≥ 97)) && (decide (((c5.toNat : Int) : Int) ≤ 122))) || ((decide (((c5.toNat : Int) : Int) ≥ 65)) && (decide (((c5.toNat : Int) : Int) ≤ 90)))) || ((decide (((c5.toNat : Int) : Int) ≥ 48)) && (decide (((c5.toNat : Int) : Int) ≤ 57)))) || (((c5.toNat : Int) : Int) == 95)))
 (K false H3)
 (J2 (w .i64 (x1 + 1)) H3))
 (K (decide (((List.length p_s : Int) : Int) ≤ 32)) H3))
theorem Qo3 (C p_s K H) (h : Ql2 C p_s K H) : Qie C p_s K H := by
 refine Ye Tryz.func128 rfl Tryz.ntmps128 [(0, sv p_s)] (Zo (Za (GL.nil (GC.seq (Zo (Zm (Zr (Zm (GL.nil (GC.block (Yp h (fun x1 => [(7, .int .i64 x1), (0, sv p_s), (6, .int .i64 (List.length p_s : Int))]) ?_)))))))))))
 intro x1 H3 J2 h
 refine Zo (Zi (.bool (decide ((x1 : Int) < (List.length p_s : Int)))) (GL.nil (GC.seq (Yd h (fun hc4 h => ?_) fun hc4 h => ?_))))
 refine GC.skip (GC.seq (GC.block (Zo (Zm (Za (GL.nil (Zo (Zm (Zm (Ys h fun c5 h => ?_))))))))))
 refine Za (GL.nil (Zo (Zm (Zi (.bool (decide (((c5.toNat : Int) : Int) ≥ 97))) (Zm (GL.cut0 3 [(18, .bool ((decide (((c5.toNat : Int) : Int) ≥ 97)) && (decide (((c5.toNat : Int) : Int) ≤ 122)))), (0, sv p_s), (4, .int .u8 (c5.toNat : Int)), (6, .int .i64 (List.length p_s : Int)), (7, .int .i64 x1)] ?_ ?_))))))
 rcases Zb (decide (((c5.toNat : Int) : Int) ≥ 97)) with hc8 | hc8
 refine Zu hc8 Ym (Zu hc8 (OV.ibin (v := .bool (decide (((c5.toNat : Int) : Int) ≤ 122))) rfl rfl rfl) (Zt hc8 ?_))
 exact GL.jump0 (fun _ _ h => h) () rfl ⟨(by rw [hc8]; rfl), rfl, rfl, rfl, rfl, trivial⟩
 refine Zk hc8 (Zk hc8 (Zn hc8 ?_))
 exact GL.jump0 (fun _ _ h => h) () rfl ⟨(by rw [hc8]; rfl), rfl, rfl, rfl, rfl, trivial⟩
 refine Zm (GL.cut0 7 [(26, .bool (((decide (((c5.toNat : Int) : Int) ≥ 97)) && (decide (((c5.toNat : Int) : Int) ≤ 122))) || ((decide (((c5.toNat : Int) : Int) ≥ 65)) && (decide (((c5.toNat : Int) : Int) ≤ 90))))), (0, sv p_s), (4, .int .u8 (c5.toNat : Int)), (6, .int .i64 (List.length p_s : Int)), (7, .int .i64 x1)] ?_ ?_)
 rcases Zb ((decide (((c5.toNat : Int) : Int) ≥ 97)) && (decide (((c5.toNat : Int) : Int) ≤ 122))) with hc9 | hc9
 refine Zk hc9 (Zk hc9 (Zk hc9 (GL.skip ⟨_, rfl, .inr rfl⟩ rfl (GL.skip ⟨_, rfl, .inr rfl⟩ rfl (Zk hc9 (Zt hc9 ?_))))))
 exact GL.jump0 (fun _ _ h => h) () rfl ⟨(by rw [hc9]; rfl), rfl, rfl, rfl, rfl, trivial⟩
 refine Zu hc9 Ym (Zu hc9 (OV.ibin (v := .bool (decide (((c5.toNat : Int) : Int) ≥ 65))) rfl rfl rfl) (Zu hc9 Ym (GL.cut0 3 [(25, .bool ((decide (((c5.toNat : Int) : Int) ≥ 65)) && (decide (((c5.toNat : Int) : Int) ≤ 90)))), (0, sv p_s), (4, .int .u8 (c5.toNat : Int)), (6, .int .i64 (List.length p_s : Int)), (7, .int .i64 x1), (19, .bool ((decide (((c5.toNat : Int) : Int) ≥ 97)) && (decide (((c5.toNat : Int) : Int) ≤ 122))))] ?_ ?_)))
 rcases Zb (decide (((c5.toNat : Int) : Int) ≥ 65)) with hc10 | hc10
 refine Zu hc10 Ym (Zu hc10 (OV.ibin (v := .bool (decide (((c5.toNat : Int) : Int) ≤ 90))) rfl rfl rfl) (Zu hc9 (OV.pickT rfl hc10 rfl) ?_))
 exact GL.jump0 (fun _ _ h => h) () rfl ⟨(by rw [hc10]; rfl), rfl, rfl, rfl, rfl, rfl, trivial⟩
 refine Zk hc10 (Zk hc10 (Zu hc9 (OV.pickF rfl hc10 rfl) ?_))
 exact GL.jump0 (fun _ _ h => h) () rfl ⟨(by rw [hc10]; rfl), rfl, rfl, rfl, rfl, rfl, trivial⟩
 refine Zn hc9 ?_
 exact GL.jump0 (fun _ _ h => h) () rfl ⟨(by rw [hc9]; rfl), rfl, rfl, rfl, rfl, trivial⟩
 refine Zm (GL.cut0 7 [(34, .bool ((((decide (((c5.toNat : Int) : Int) ≥ 97)) && (decide (((c5.toNat : Int) : Int) ≤ 122))) || ((decide (((c5.toNat : Int) : Int) ≥ 65)) && (decide (((c5.toNat : Int) : Int) ≤ 90)))) || ((decide (((c5.toNat : Int) : Int) ≥ 48)) && (decide (((c5.toNat : Int) : Int) ≤ 57))))), (0, sv p_s), (4, .int .u8 (c5.toNat : Int)), (6, .int .i64 (List.length p_s : Int)), (7, .int .i64 x1)] ?_ ?_)
 rcases Zb (((decide (((c5.toNat : Int) : Int) ≥ 97)) && (decide (((c5.toNat : Int) : Int) ≤ 122))) || ((decide (((c5.toNat : Int) : Int) ≥ 65)) && (decide (((c5.toNat : Int) : Int) ≤ 90)))) with hc11 | hc11
 refine Zk hc11 (Zk hc11 (Zk hc11 (GL.skip ⟨_, rfl, .inr rfl⟩ rfl (GL.skip ⟨_, rfl, .inr rfl⟩ rfl (Zk hc11 (Zt hc11 ?_))))))
 exact GL.jump0 (fun _ _ h => h) () rfl ⟨(by rw [hc11]; rfl), rfl, rfl, rfl, rfl, trivial⟩
 refine Zu hc11 Ym (Zu hc11 (OV.ibin (v := .bool (decide (((c5.toNat : Int) : Int) ≥ 48))) rfl rfl rfl) (Zu hc11 Ym (GL.cut0 3 [(33, .bool ((decide (((c5.toNat : Int) : Int) ≥ 48)) && (decide (((c5.toNat : Int) : Int) ≤ 57)))), (0, sv p_s), (4, .int .u8 (c5.toNat : Int)), (6, .int .i64 (List.length p_s : Int)), (7, .int .i64 x1), (27, .bool (((decide (((c5.toNat : Int) : Int) ≥ 97)) && (decide (((c5.toNat : Int) : Int) ≤ 122))) || ((decide (((c5.toNat : Int) : Int) ≥ 65)) && (decide (((c5.toNat : Int) : Int) ≤ 90)))))] ?_ ?_)))
 rcases Zb (decide (((c5.toNat : Int) : Int) ≥ 48)) with hc12 | hc12
 refine Zu hc12 Ym (Zu hc12 (OV.ibin (v := .bool (decide (((c5.toNat : Int) : Int) ≤ 57))) rfl rfl rfl) (Zu hc11 (OV.pickT rfl hc12 rfl) ?_))
 exact GL.jump0 (fun _ _ h => h) () rfl ⟨(by rw [hc12]; rfl), rfl, rfl, rfl, rfl, rfl, trivial⟩
 refine Zk hc12 (Zk hc12 (Zu hc11 (OV.pickF rfl hc12 rfl) ?_))
 exact GL.jump0 (fun _ _ h => h) () rfl ⟨(by rw [hc12]; rfl), rfl, rfl, rfl, rfl, rfl, trivial⟩
 refine Zn hc11 ?_
 exact GL.jump0 (fun _ _ h => h) () rfl ⟨(by rw [hc11]; rfl), rfl, rfl, rfl, rfl, trivial⟩
 refine Zm (GL.cut0 3 [(38, .bool (((((decide (((c5.toNat : Int) : Int) ≥ 97)) && (decide (((c5.toNat : Int) : Int) ≤ 122))) || ((decide (((c5.toNat : Int) : Int) ≥ 65)) && (decide (((c5.toNat : Int) : Int) ≤ 90)))) || ((decide (((c5.toNat : Int) : Int) ≥ 48)) && (decide (((c5.toNat : Int) : Int) ≤ 57)))) || (((c5.toNat : Int) : Int) == 95))), (0, sv p_s), (6, .int .i64 (List.length p_s : Int)), (7, .int .i64 x1)] ?_ ?_)
 rcases Zb ((((decide (((c5.toNat : Int) : Int) ≥ 97)) && (decide (((c5.toNat : Int) : Int) ≤ 122))) || ((decide (((c5.toNat : Int) : Int) ≥ 65)) && (decide (((c5.toNat : Int) : Int) ≤ 90)))) || ((decide (((c5.toNat : Int) : Int) ≥ 48)) && (decide (((c5.toNat : Int) : Int) ≤ 57)))) with hc13 | hc13
 refine Zk hc13 (Zk hc13 (Zt hc13 ?_))
 exact GL.jump0 (fun _ _ h => h) () rfl ⟨(by rw [hc13]; rfl), rfl, rfl, rfl, trivial⟩
 refine Zu hc13 Ym (Zu hc13 (OV.ibin (v := .bool (((c5.toNat : Int) : Int) == 95)) rfl rfl rfl) (Zn hc13 ?_))
 exact GL.jump0 (fun _ _ h => h) () rfl ⟨(by rw [hc13]; rfl), rfl, rfl, rfl, trivial⟩
 refine Zv (OV.not rfl) (GL.nil (Yd h (fun hc14 h => ?_) fun hc14 h => ?_))
 refine Zo (Za (GL.nil ?_))
 exact Y1 I3 ⟨false, rfl, h⟩
 refine GC.skip_to (fun _ _ h => h) (GC.region (Zi (.int .i64 (w .i64 (x1 + 1))) (Zm ?_)))
 exact Yj I3 (w .i64 (x1 + 1)) h
 refine GC.exit_to (fun _ _ h => h) (Zo (Zm (Zr (Zi (.bool (decide (((List.length p_s : Int) : Int) ≤ 32))) (Za (GL.nil ?_))))))
 exact Y1 I3 ⟨(decide (((List.length p_s : Int) : Int) ≤ 32)), rfl, h⟩
def QaL (C : Ctx) (p_s : Sl) (p_f : Value) (K : Bool → Heap → Prop) (H : Heap) : Prop :=
 Qbj C p_s p_f (fun r1 H2 =>
 K (decide ((r1 : Int) ≥ 0)) H2) H
theorem Qcy (C p_s p_f K H) (h : QaL C p_s p_f K H) : QaQ C p_s p_f K H := by
 refine Ye Tryz.func130 rfl Tryz.ntmps130 [(0, slv p_s), (1, p_f)] (Zo (Za (GL.nil (Zo (Zm (Zm (Zc h Qde ?_)))))))
 rintro _ H2 ⟨r1, rfl, h⟩
 refine Zi (.bool (decide ((r1 : Int) ≥ 0))) (Za (GL.nil ?_))
 exact Y1 I3 ⟨(decide ((r1 : Int) ≥ 0)), rfl, h⟩
def QeE (C : Ctx) (p_x : Ql) (v0 : Nat × Nat) (K : Bool → Heap → Prop) (H : Heap) : Prop :=
 nw (Ql.c p_x) (fun b1 H2 =>
 ldV H2 v0 fun x3 =>
 ldT H2 Ql.c (b1, 0) fun x5 =>
 callU Tryz.prog C x3 [.agg (Ql.c x5).toArray] H2 (fun v H8 => ∃ (r7 : Bool), v = .bool r7 ∧
 K (!r7) H8)) H
theorem Qhy (C p_x v0 K H) (h : QeE C p_x v0 K H) : QeV C p_x v0 K H := by
 refine Ye Tryz.func131 rfl Tryz.ntmps131 [(0, .agg (Ql.c p_x).toArray), (1, pv (some v0))] (Zo (GL.box (v := .agg (Ql.c p_x).toArray) (cs := Ql.c p_x) h trivial rfl rfl rfl ?_))
 intro b1 H2 h
 refine Za (GL.nil (Zo (Yl h fun x3 h => ?_)))
 obtain ⟨x5, hr6, h⟩ := h
 refine Zv (OV.loadT rfl rfl rfl hr6) (GL.callU (xv := x3) (vs := [.agg (Ql.c x5).toArray]) h trivial rfl rfl rfl ?_)
 rintro _ H8 ⟨r7, rfl, h⟩
 refine Zv (OV.not rfl) (Za (GL.nil ?_))
 exact Y1 I3 ⟨(!r7), rfl, h⟩
def Qay (C : Ctx) (p_s : Sl) (p_f : Value) (K : Bool → Heap → Prop) (H : Heap) : Prop :=
 Qa3 C p_s p_f (fun r1 H2 =>
 K (decide ((r1 : Int) ≥ 0)) H2) H
theorem Qci (C p_s p_f K H) (h : Qay C p_s p_f K H) : QaG C p_s p_f K H := by
 refine Ye Tryz.func132 rfl Tryz.ntmps132 [(0, slv p_s), (1, p_f)] (Zo (Za (GL.nil (Zo (Zm (Zm (Zc h QcP ?_)))))))
 rintro _ H2 ⟨r1, rfl, h⟩
 refine Zi (.bool (decide ((r1 : Int) ≥ 0))) (Za (GL.nil ?_))
 exact Y1 I3 ⟨(decide ((r1 : Int) ≥ 0)), rfl, h⟩
def Qem (C : Ctx) (p_x : Qg) (v0 : Nat × Nat) (K : Bool → Heap → Prop) (H : Heap) : Prop :=
 nw (Qg.c p_x) (fun b1 H2 =>
 ldV H2 v0 fun x3 =>
 ldT H2 Qg.c (b1, 0) fun x5 =>
 callU Tryz.prog C x3 [.agg (Qg.c x5).toArray] H2 (fun v H8 => ∃ (r7 : Bool), v = .bool r7 ∧
 K (!r7) H8)) H
theorem Qhe (C p_x v0 K H) (h : Qem C p_x v0 K H) : Qez C p_x v0 K H := by
 refine Ye Tryz.func133 rfl Tryz.ntmps133 [(0, .agg (Qg.c p_x).toArray), (1, pv (some v0))] (Zo (GL.box (v := .agg (Qg.c p_x).toArray) (cs := Qg.c p_x) h trivial rfl rfl rfl ?_))
 intro b1 H2 h
 refine Za (GL.nil (Zo (Yl h fun x3 h => ?_)))
 obtain ⟨x5, hr6, h⟩ := h
 refine Zv (OV.loadT rfl rfl rfl hr6) (GL.callU (xv := x3) (vs := [.agg (Qg.c x5).toArray]) h trivial rfl rfl rfl ?_)
 rintro _ H8 ⟨r7, rfl, h⟩
 refine Zv (OV.not rfl) (Za (GL.nil ?_))
 exact Y1 I3 ⟨(!r7), rfl, h⟩
def Qg5 (C : Ctx) (p_l : Sl) (p_is : Value) (K : Bool → Heap → Prop) (H : Heap) : Prop :=
 (Value.cells p_is = #[p_is]) ∧ nw ([p_is]) (fun b1 H2 =>
 QbR C p_l (.func (.func 186) (List.toArray []) (List.toArray [pv (some (b1, 0))]) : Value) (fun r4 H5 =>
 K (!r4) H5) H2) H
theorem QkU (C p_l p_is K H) (h : Qg5 C p_l p_is K H) : QaH C p_l p_is K H := by
 refine Ye Tryz.func134 rfl Tryz.ntmps134 [(0, slv p_l), (1, p_is)] (Zo ?_)
 obtain ⟨u3, h⟩ := h
 refine GL.box (v := p_is) (cs := [p_is]) h trivial rfl rfl u3 ?_
 intro b1 H2 h
 refine Za (GL.nil (Zo (Zm (Zv (OV.makeFunc (vs := []) (us := [pv (some (b1, 0))]) rfl rfl) (Zc h Qeh ?_)))))
 rintro _ H5 ⟨r4, rfl, h⟩
 refine Zv (OV.not rfl) (Za (GL.nil ?_))
 exact Y1 I3 ⟨(!r4), rfl, h⟩
def Qlp (C : Ctx) (p_s : Str) (K : Bool → Heap → Prop) (H : Heap) : Prop :=
 Qgs C p_s [39] (fun r1 H2 =>
 jn (α := Bool) (fun b3 H15 =>
 K b3 H15)
 (fun J4 => ift r1
 (slS p_s 1 (List.length p_s : Int) fun t7 =>
 Qbg C t7 (fun r13 H14 =>
 J4 r13 H14) H2)
 (J4 false H2))) H
theorem Qoh (C p_s K H) (h : Qlp C p_s K H) : Qjd C p_s K H := by
 refine Ye Tryz.func135 rfl Tryz.ntmps135 [(0, sv p_s)] (Zo (Za (GL.nil (Zo (Zm (Zc h QjV ?_))))))
 rintro _ H2 ⟨r1, rfl, h⟩
 refine Zm ?_
 obtain ⟨J4, h, hR5⟩ := h
 refine GL.cut (α := Bool) 4 J4 (fun b3 => [(9, .bool b3)]) ?_ ?_
 rcases h.em with ⟨u6, h⟩ | ⟨u6, h⟩
 refine Zu u6 Ym ?_
 obtain ⟨h8, h9, h10, t7, h11, h⟩ := h
 refine Zu u6 (OV.sliceStr (s := p_s) h8 h9 h10 h11 rfl rfl rfl rfl rfl rfl) (GL.call h (Yt u6) rfl Qbr (vs := [sv t7]) rfl ?_)
 rintro _ H14 ⟨r13, rfl, h⟩
 refine Zt u6 ?_
 exact Yj I3 r13 h
 refine Zk u6 (Zk u6 (Zk u6 (Zn u6 ?_)))
 exact Yj I3 false h
 intro b3 H15 h
 replace h := hR5 b3 H15 h
 refine Za (GL.nil ?_)
 exact Y1 I3 ⟨b3, rfl, h⟩
def Qe5 (C : Ctx) (p_l : Sl) (p_is : Value) (K : Bool → Heap → Prop) (H : Heap) : Prop :=
 (Value.cells p_is = #[p_is]) ∧ nw ([p_is]) (fun b1 H2 =>
 QaE C p_l (.func (.func 189) (List.toArray []) (List.toArray [pv (some (b1, 0))]) : Value) (fun r4 H5 =>
 K (!r4) H5) H2) H
theorem Qh4 (C p_l p_is K H) (h : Qe5 C p_l p_is K H) : Qag C p_l p_is K H := by
 refine Ye Tryz.func136 rfl Tryz.ntmps136 [(0, slv p_l), (1, p_is)] (Zo ?_)
 obtain ⟨u3, h⟩ := h
 refine GL.box (v := p_is) (cs := [p_is]) h trivial rfl rfl u3 ?_
 intro b1 H2 h
 refine Za (GL.nil (Zo (Zm (Zv (OV.makeFunc (vs := []) (us := [pv (some (b1, 0))]) rfl rfl) (Zc h Qcj ?_)))))
 rintro _ H5 ⟨r4, rfl, h⟩
 refine Zv (OV.not rfl) (Za (GL.nil ?_))
 exact Y1 I3 ⟨(!r4), rfl, h⟩
def Qh1 (C : Ctx) (p_c : Qe) (K : Bool → Heap → Prop) (H : Heap) : Prop :=
 nw (Qe.c p_c) (fun b1 H2 =>
 ldS H2 ((b1, 0).1, (b1, 0).2 + 0) fun x3 =>
 Qbg C x3 (fun r5 H6 =>
 jn (α := Bool) (fun b7 H15 =>
 K b7 H15)
 (fun J8 => ift r5
 (ldL H6 ((b1, 0).1, (b1, 0).2 + 1) fun x11 =>
 Qb2 C x11 false (fun r13 H14 =>
 J8 r13 H14) H6)
 (J8 false H6))) H2) H
theorem QlA (C p_c K H) (h : Qh1 C p_c K H) : QbY C p_c K H := by
 refine Ye Tryz.func137 rfl Tryz.ntmps137 [(0, .agg (Qe.c p_c).toArray)] (Zo (GL.box (v := .agg (Qe.c p_c).toArray) (cs := Qe.c p_c) h trivial rfl rfl rfl ?_))
 intro b1 H2 h
 refine Za (GL.nil (Zo (Zf (Yl h fun x3 h => ?_))))
 refine Zc h Qbr ?_
 rintro _ H6 ⟨r5, rfl, h⟩
 refine Zm ?_
 obtain ⟨J8, h, hR9⟩ := h
 refine GL.cut (α := Bool) 4 J8 (fun b7 => [(10, .bool b7)]) ?_ ?_
 rcases h.em with ⟨u10, h⟩ | ⟨u10, h⟩
 refine Zu u10 Yf ?_
 obtain ⟨x11, v12, h⟩ := h
 refine Zu u10 (Yo v12) (GL.call h (Yt u10) rfl Qka (vs := [slv x11, .bool false]) rfl ?_)
 rintro _ H14 ⟨r13, rfl, h⟩
 refine Zt u10 ?_
 exact Yj I3 r13 h
 refine Zk u10 (Zk u10 (Zk u10 (Zn u10 ?_)))
 exact Yj I3 false h
 intro b7 H15 h
 replace h := hR9 b7 H15 h
 refine Za (GL.nil ?_)
 exact Y1 I3 ⟨b7, rfl, h⟩
def QaM (C : Ctx) (p_s : Sl) (p_f : Value) (K : Bool → Heap → Prop) (H : Heap) : Prop :=
 Qbk C p_s p_f (fun r1 H2 =>
 K (decide ((r1 : Int) ≥ 0)) H2) H
theorem Qcz (C p_s p_f K H) (h : QaM C p_s p_f K H) : QaR C p_s p_f K H := by
 refine Ye Tryz.func138 rfl Tryz.ntmps138 [(0, slv p_s), (1, p_f)] (Zo (Za (GL.nil (Zo (Zm (Zm (Zc h Qdf ?_)))))))
 rintro _ H2 ⟨r1, rfl, h⟩
 refine Zi (.bool (decide ((r1 : Int) ≥ 0))) (Za (GL.nil ?_))
 exact Y1 I3 ⟨(decide ((r1 : Int) ≥ 0)), rfl, h⟩
def QeF (C : Ctx) (p_x : Qh) (v0 : Nat × Nat) (K : Bool → Heap → Prop) (H : Heap) : Prop :=
 nw (Qh.c p_x) (fun b1 H2 =>
 ldV H2 v0 fun x3 =>
 ldT H2 Qh.c (b1, 0) fun x5 =>
 callU Tryz.prog C x3 [.agg (Qh.c x5).toArray] H2 (fun v H8 => ∃ (r7 : Bool), v = .bool r7 ∧
 K (!r7) H8)) H
theorem Qhz (C p_x v0 K H) (h : QeF C p_x v0 K H) : QeW C p_x v0 K H := by
 refine Ye Tryz.func139 rfl Tryz.ntmps139 [(0, .agg (Qh.c p_x).toArray), (1, pv (some v0))] (Zo (GL.box (v := .agg (Qh.c p_x).toArray) (cs := Qh.c p_x) h trivial rfl rfl rfl ?_))
 intro b1 H2 h
 refine Za (GL.nil (Zo (Yl h fun x3 h => ?_)))
 obtain ⟨x5, hr6, h⟩ := h
 refine Zv (OV.loadT rfl rfl rfl hr6) (GL.callU (xv := x3) (vs := [.agg (Qh.c x5).toArray]) h trivial rfl rfl rfl ?_)
 rintro _ H8 ⟨r7, rfl, h⟩
 refine Zv (OV.not rfl) (Za (GL.nil ?_))
 exact Y1 I3 ⟨(!r7), rfl, h⟩
def QeD (C : Ctx) (p_l : Sl) (p_is : Value) (K : Bool → Heap → Prop) (H : Heap) : Prop :=
 (Value.cells p_is = #[p_is]) ∧ nw ([p_is]) (fun b1 H2 =>
 Qas C p_l (.func (.func 192) (List.toArray []) (List.toArray [pv (some (b1, 0))]) : Value) (fun r4 H5 =>
 K (!r4) H5) H2) H
theorem Qhx (C p_l p_is K H) (h : QeD C p_l p_is K H) : Q5 C p_l p_is K H := by
 refine Ye Tryz.func140 rfl Tryz.ntmps140 [(0, slv p_l), (1, p_is)] (Zo ?_)
 obtain ⟨u3, h⟩ := h
 refine GL.box (v := p_is) (cs := [p_is]) h trivial rfl rfl u3 ?_
 intro b1 H2 h
 refine Za (GL.nil (Zo (Zm (Zv (OV.makeFunc (vs := []) (us := [pv (some (b1, 0))]) rfl rfl) (Zc h Qb6 ?_)))))
 rintro _ H5 ⟨r4, rfl, h⟩
 refine Zv (OV.not rfl) (Za (GL.nil ?_))
 exact Y1 I3 ⟨(!r4), rfl, h⟩
def QiH (C : Ctx) (p_f : Qc) (v0 : Nat × Nat) (K : Bool → Heap → Prop) (H : Heap) : Prop :=
 nw (Qc.c p_f) (fun b1 H2 =>
 ldS H2 ((b1, 0).1, (b1, 0).2 + 0) fun x3 =>
 Qbg C x3 (fun r5 H6 =>
 jn (α := Bool) (fun b7 H20 =>
 jn (α := Bool) (fun b21 H29 =>
 K b21 H29)
 (fun J22 => ift b7
 (ldT H20 Qf.c ((b1, 0).1, (b1, 0).2 + 1) fun x25 =>
 QdA C x25 (fun r27 H28 =>
 J22 r27 H28) H20)
 (J22 false H20)))
 (fun J8 => ift r5
 (J8 true H6)
 (ldB H6 v0 fun x11 =>
 jn (α := Bool) (fun b13 H19 =>
 J8 b13 H19)
 (fun J14 => ift (!x11)
 (ldS H6 ((b1, 0).1, (b1, 0).2 + 0) fun x17 =>
 J14 (x17 == ([] : Str)) H6)
 (J14 false H6))))) H2) H
theorem Qmb (C p_f v0 K H) (h : QiH C p_f v0 K H) : Qct C p_f v0 K H := by
 refine Ye Tryz.func141 rfl Tryz.ntmps141 [(0, .agg (Qc.c p_f).toArray), (1, pv (some v0))] (Zo (GL.box (v := .agg (Qc.c p_f).toArray) (cs := Qc.c p_f) h trivial rfl rfl rfl ?_))
 intro b1 H2 h
 refine Za (GL.nil (Zo (Zf (Yl h fun x3 h => ?_))))
 refine Zc h Qbr ?_
 rintro _ H6 ⟨r5, rfl, h⟩
 refine Zm ?_
 obtain ⟨J8, h, hR9⟩ := h
 refine GL.cut (α := Bool) 8 J8 (fun b7 => [(15, .bool b7), (2, pv (some (b1, 0)))]) ?_ ?_
 rcases h.em with ⟨u10, h⟩ | ⟨u10, h⟩
 refine Zk u10 (Zk u10 (Zk u10 (GL.skip ⟨_, rfl, .inr rfl⟩ rfl (GL.skip ⟨_, rfl, .inr rfl⟩ rfl (GL.skip ⟨_, rfl, .inr rfl⟩ rfl (Zk u10 (Zt u10 ?_)))))))
 exact Yj I3 true h
 obtain ⟨x11, hr12, h⟩ := h
 refine Zu u10 (Yo hr12) (Zu u10 (OV.not rfl) (Zu u10 Ym ?_))
 obtain ⟨J14, h, hR15⟩ := h
 refine GL.cut (α := Bool) 4 J14 (fun b13 => [(14, .bool b13), (2, pv (some (b1, 0))), (7, .bool r5)]) ?_ ?_
 rcases h.em with ⟨u16, h⟩ | ⟨u16, h⟩
 refine Zu u16 Yf ?_
 obtain ⟨x17, hr18, h⟩ := h
 refine Zu u16 (Yo hr18) (Zu u16 (OV.sbin (a := x17) (b := ([] : Str)) (v := .bool (x17 == ([] : Str))) rfl rfl rfl) (Zu u10 (OV.pickT rfl u16 rfl) ?_))
 exact Yj I3 (x17 == ([] : Str)) h
 refine Zk u16 (Zk u16 (Zk u16 (Zu u10 (OV.pickF rfl u16 rfl) ?_)))
 exact Yj I3 false h
 intro b13 H19 h
 replace h := hR15 b13 H19 h
 refine Zn u10 ?_
 exact Yj I3 b13 h
 intro b7 H20 h
 replace h := hR9 b7 H20 h
 refine Zm ?_
 obtain ⟨J22, h, hR23⟩ := h
 refine GL.cut (α := Bool) 4 J22 (fun b21 => [(20, .bool b21)]) ?_ ?_
 rcases h.em with ⟨u24, h⟩ | ⟨u24, h⟩
 refine Zu u24 Yf ?_
 obtain ⟨x25, hr26, h⟩ := h
 refine Zu u24 (OV.loadT rfl rfl rfl hr26) (GL.call h (Yt u24) rfl Qlg (vs := [.agg (Qf.c x25).toArray]) rfl ?_)
 rintro _ H28 ⟨r27, rfl, h⟩
 refine Zt u24 ?_
 exact Yj I3 r27 h
 refine Zk u24 (Zk u24 (Zk u24 (Zn u24 ?_)))
 exact Yj I3 false h
 intro b21 H29 h
 replace h := hR23 b21 H29 h
 refine Za (GL.nil ?_)
 exact Y1 I3 ⟨b21, rfl, h⟩
def Qlq (C : Ctx) (p_t : Qf) (K : Bool → Heap → Prop) (H : Heap) : Prop :=
 nw (Qf.c p_t) (fun b1 H2 =>
 ldL H2 ((b1, 0).1, (b1, 0).2 + 1) fun x3 =>
 ldS H2 ((b1, 0).1, (b1, 0).2 + 0) fun x5 =>
 jn (α := Bool) (fun x8 H9 =>
 ift x8
 (K (((Sl.len x3 : Int) : Int) == 0) H9)
 (ift (x5 == ([116, 117, 112, 108, 101] : Str))
 (jn (α := Bool) (fun b17 H25 =>
 K b17 H25)
 (fun J18 => ift ((((Sl.len x3 : Int) : Int) != 1) && (decide (((Sl.len x3 : Int) : Int) ≤ 16)))
 (ldL H9 ((b1, 0).1, (b1, 0).2 + 1) fun x21 =>
 Q6 C x21 (.func (.func 142) (List.toArray []) (List.toArray []) : Value) (fun r23 H24 =>
 J18 r23 H24) H9)
 (J18 false H9)))
 (ldS H9 ((b1, 0).1, (b1, 0).2 + 0) fun x26 =>
 Qjd C x26 (fun r28 H29 =>
 jn (α := Bool) (fun b31 H49 =>
 K b31 H49)
 (fun J32 => ift (r28 && (((Sl.len x3 : Int) : Int) == 0))
 (J32 true H29)
 (ldS H29 ((b1, 0).1, (b1, 0).2 + 0) fun x35 =>
 Qfr C x35 (fun r37 H38 =>
 jn (α := Bool) (fun b40 H48 =>
 J32 b40 H48)
 (fun J41 => ift (r37 && (decide (((Sl.len x3 : Int) : Int) ≤ 8)))
 (ldL H38 ((b1, 0).1, (b1, 0).2 + 1) fun x44 =>
 Q6 C x44 (.func (.func 142) (List.toArray []) (List.toArray []) : Value) (fun r46 H47 =>
 J41 r46 H47) H38)
 (J41 false H38))) H29))) H9)))
 (fun J7 => ift (x5 == ([98, 111, 111, 108] : Str))
 (J7 (x5 == ([98, 111, 111, 108] : Str)) H2)
 (ift (x5 == ([105, 110, 116] : Str))
 (J7 (x5 == ([105, 110, 116] : Str)) H2)
 (ift (x5 == ([98, 105, 103] : Str))
 (J7 (x5 == ([98, 105, 103] : Str)) H2)
 (J7 (x5 == ([116, 101, 120, 116] : Str)) H2))))) H
theorem Qoi (C p_t K H) (h : Qlq C p_t K H) : QdA C p_t K H := by
 refine Ye Tryz.func142 rfl Tryz.ntmps142 [(0, .agg (Qf.c p_t).toArray)] (Zo (GL.box (v := .agg (Qf.c p_t).toArray) (cs := Qf.c p_t) h trivial rfl rfl rfl ?_))
 intro b1 H2 h
 refine Za (GL.nil (Zo (Zf (Yl h fun x3 h => ?_))))
 refine Zq (Za (GL.nil (GC.seq (Zo (Zf (Yl h fun x5 h => ?_))))))
 refine GL.nil (GC.block ?_)
 obtain ⟨J7, h, hR10⟩ := h
 refine GC.join (α := Bool) J7 (fun x8 => [(9, .bool x8), (1, pv (some (b1, 0))), (3, .int .i64 (Sl.len x3 : Int)), (8, sv x5)]) ?_ ?_
 refine Zo (Zv (OV.sbin (a := x5) (b := ([98, 111, 111, 108] : Str)) (v := .bool (x5 == ([98, 111, 111, 108] : Str))) rfl rfl rfl) (Za (GL.nil (Yd h (fun u11 h => ?_) fun u11 h => ?_))))
 exact Yk I3 (x5 == ([98, 111, 111, 108] : Str)) h
 refine Zo (Zv (OV.sbin (a := x5) (b := ([105, 110, 116] : Str)) (v := .bool (x5 == ([105, 110, 116] : Str))) rfl rfl rfl) (Za (GL.nil (Yd h (fun u12 h => ?_) fun u12 h => ?_))))
 exact Yk I3 (x5 == ([105, 110, 116] : Str)) h
 refine Zo (Zv (OV.sbin (a := x5) (b := ([98, 105, 103] : Str)) (v := .bool (x5 == ([98, 105, 103] : Str))) rfl rfl rfl) (Za (GL.nil (Yd h (fun u13 h => ?_) fun u13 h => ?_))))
 exact Yk I3 (x5 == ([98, 105, 103] : Str)) h
 refine GC.region (Zv (OV.sbin (a := x5) (b := ([116, 101, 120, 116] : Str)) (v := .bool (x5 == ([116, 101, 120, 116] : Str))) rfl rfl rfl) (Za ?_))
 exact Yj I3 (x5 == ([116, 101, 120, 116] : Str)) h
 intro x8 H9 h
 replace h := hR10 x8 H9 h
 refine Yd h (fun u14 h => ?_) fun u14 h => ?_
 refine Zo (Zm (Zi (.bool (((Sl.len x3 : Int) : Int) == 0)) (Za (GL.nil ?_))))
 exact Y1 I3 ⟨(((Sl.len x3 : Int) : Int) == 0), rfl, h⟩
 refine Zo (Zv (OV.sbin (a := x5) (b := ([116, 117, 112, 108, 101] : Str)) (v := .bool (x5 == ([116, 117, 112, 108, 101] : Str))) rfl rfl rfl) (Za (GL.nil (Yd h (fun u15 h => ?_) fun u15 h => ?_))))
 refine Zo (Zm (Zi (.bool (((Sl.len x3 : Int) : Int) != 1)) (Zm (GL.cut0 3 [(23, .bool ((((Sl.len x3 : Int) : Int) != 1) && (decide (((Sl.len x3 : Int) : Int) ≤ 16)))), (1, pv (some (b1, 0)))] ?_ ?_))))
 rcases Zb (((Sl.len x3 : Int) : Int) != 1) with u16 | u16
 refine Zu u16 Ym (Zu u16 (OV.ibin (v := .bool (decide (((Sl.len x3 : Int) : Int) ≤ 16))) rfl rfl rfl) (Zt u16 ?_))
 exact GL.jump0 (fun _ _ h => h) () rfl ⟨(by rw [u16]; rfl), rfl, trivial⟩
 refine Zk u16 (Zk u16 (Zn u16 ?_))
 exact GL.jump0 (fun _ _ h => h) () rfl ⟨(by rw [u16]; rfl), rfl, trivial⟩
 refine Zm ?_
 obtain ⟨J18, h, hR19⟩ := h
 refine GL.cut (α := Bool) 4 J18 (fun b17 => [(28, .bool b17)]) ?_ ?_
 rcases h.em with ⟨u20, h⟩ | ⟨u20, h⟩
 refine Zu u20 Yf ?_
 obtain ⟨x21, v22, h⟩ := h
 refine Zu u20 (Yo v22) (GL.call h (Yt u20) rfl Qf3 (vs := [slv x21, .func (.func 142) (List.toArray []) (List.toArray [])]) rfl ?_)
 rintro _ H24 ⟨r23, rfl, h⟩
 refine Zt u20 ?_
 exact Yj I3 r23 h
 refine Zk u20 (Zk u20 (Zk u20 (Zn u20 ?_)))
 exact Yj I3 false h
 intro b17 H25 h
 replace h := hR19 b17 H25 h
 refine Za (GL.nil ?_)
 exact Y1 I3 ⟨b17, rfl, h⟩
 refine GC.skip_to (fun _ _ h => h) (Zo (Zf ?_))
 refine Yl h fun x26 h => ?_
 refine Zc h Qlf ?_
 rintro _ H29 ⟨r28, rfl, h⟩
 refine Zm (GL.cut0 3 [(35, .bool (r28 && (((Sl.len x3 : Int) : Int) == 0))), (1, pv (some (b1, 0))), (3, .int .i64 (Sl.len x3 : Int))] ?_ ?_)
 rcases Bool.eq_false_or_eq_true r28 with u30 | u30
 refine Zu u30 Ym (Zu u30 (OV.ibin (v := .bool (((Sl.len x3 : Int) : Int) == 0)) rfl rfl rfl) (Zt u30 ?_))
 exact GL.jump0 (fun _ _ h => h) () rfl ⟨(by rw [u30]; rfl), rfl, rfl, trivial⟩
 refine Zk u30 (Zk u30 (Zn u30 ?_))
 exact GL.jump0 (fun _ _ h => h) () rfl ⟨(by rw [u30]; rfl), rfl, rfl, trivial⟩
 refine Zm ?_
 obtain ⟨J32, h, hR33⟩ := h
 refine GL.cut (α := Bool) 13 J32 (fun b31 => [(49, .bool b31)]) ?_ ?_
 rcases h.em with ⟨u34, h⟩ | ⟨u34, h⟩
 refine Zk u34 (Zk u34 (Zk u34 (Zk u34 (GL.skip ⟨_, rfl, .inr rfl⟩ rfl (GL.skip ⟨_, rfl, .inr rfl⟩ rfl (Zk u34 (Zk u34 (GL.skip ⟨_, rfl, .inr rfl⟩ rfl (GL.skip ⟨_, rfl, .inr rfl⟩ rfl (GL.skip ⟨_, rfl, .inr rfl⟩ rfl (Zk u34 (Zt u34 ?_))))))))))))
 exact Yj I3 true h
 refine Zu u34 Yf ?_
 obtain ⟨x35, v36, h⟩ := h
 refine Zu u34 (Yo v36) (GL.call h (Yt u34) rfl QgY (vs := [sv x35]) rfl ?_)
 rintro _ H38 ⟨r37, rfl, h⟩
 refine Zu u34 Ym (GL.cut0 3 [(43, .bool (r37 && (decide (((Sl.len x3 : Int) : Int) ≤ 8)))), (1, pv (some (b1, 0))), (36, .bool (r28 && (((Sl.len x3 : Int) : Int) == 0)))] ?_ ?_)
 rcases Bool.eq_false_or_eq_true r37 with u39 | u39
 refine Zu u39 Ym (Zu u39 (OV.ibin (v := .bool (decide (((Sl.len x3 : Int) : Int) ≤ 8))) rfl rfl rfl) (Zu u34 (OV.pickT rfl u39 rfl) ?_))
 exact GL.jump0 (fun _ _ h => h) () rfl ⟨(by rw [u39]; rfl), rfl, rfl, trivial⟩
 refine Zk u39 (Zk u39 (Zu u34 (OV.pickF rfl u39 rfl) ?_))
 exact GL.jump0 (fun _ _ h => h) () rfl ⟨(by rw [u39]; rfl), rfl, rfl, trivial⟩
 refine Zu u34 Ym ?_
 obtain ⟨J41, h, hR42⟩ := h
 refine GL.cut (α := Bool) 4 J41 (fun b40 => [(48, .bool b40), (36, .bool (r28 && (((Sl.len x3 : Int) : Int) == 0)))]) ?_ ?_
 rcases h.em with ⟨u43, h⟩ | ⟨u43, h⟩
 refine Zu u43 Yf ?_
 obtain ⟨x44, v45, h⟩ := h
 refine Zu u43 (Yo v45) (GL.call h (Yt u43) rfl Qf3 (vs := [slv x44, .func (.func 142) (List.toArray []) (List.toArray [])]) rfl ?_)
 rintro _ H47 ⟨r46, rfl, h⟩
 refine Zu u34 (OV.pickT rfl u43 rfl) ?_
 exact Yj I3 r46 h
 refine Zk u43 (Zk u43 (Zk u43 (Zu u34 (OV.pickF rfl u43 rfl) ?_)))
 exact Yj I3 false h
 intro b40 H48 h
 replace h := hR42 b40 H48 h
 refine Zn u34 ?_
 exact Yj I3 b40 h
 intro b31 H49 h
 replace h := hR33 b31 H49 h
 refine Za (GL.nil ?_)
 exact Y1 I3 ⟨b31, rfl, h⟩
def Qbm (C : Ctx) (p_s : Sl) (p_f : Value) (K : Bool → Heap → Prop) (H : Heap) : Prop :=
 QbN C p_s p_f (fun r1 H2 =>
 K (decide ((r1 : Int) ≥ 0)) H2) H
theorem Qdp (C p_s p_f K H) (h : Qbm C p_s p_f K H) : Qbp C p_s p_f K H := by
 refine Ye Tryz.func143 rfl Tryz.ntmps143 [(0, slv p_s), (1, p_f)] (Zo (Za (GL.nil (Zo (Zm (Zm (Zc h Qd9 ?_)))))))
 rintro _ H2 ⟨r1, rfl, h⟩
 refine Zi (.bool (decide ((r1 : Int) ≥ 0))) (Za (GL.nil ?_))
 exact Y1 I3 ⟨(decide ((r1 : Int) ≥ 0)), rfl, h⟩
def Qfl (C : Ctx) (p_x : Qk) (v0 : Nat × Nat) (K : Bool → Heap → Prop) (H : Heap) : Prop :=
 nw (Qk.c p_x) (fun b1 H2 =>
 ldV H2 v0 fun x3 =>
 ldT H2 Qk.c (b1, 0) fun x5 =>
 callU Tryz.prog C x3 [.agg (Qk.c x5).toArray] H2 (fun v H8 => ∃ (r7 : Bool), v = .bool r7 ∧
 K (!r7) H8)) H
theorem QiQ (C p_x v0 K H) (h : Qfl C p_x v0 K H) : QfC C p_x v0 K H := by
 refine Ye Tryz.func144 rfl Tryz.ntmps144 [(0, .agg (Qk.c p_x).toArray), (1, pv (some v0))] (Zo (GL.box (v := .agg (Qk.c p_x).toArray) (cs := Qk.c p_x) h trivial rfl rfl rfl ?_))
 intro b1 H2 h
 refine Za (GL.nil (Zo (Yl h fun x3 h => ?_)))
 obtain ⟨x5, hr6, h⟩ := h
 refine Zv (OV.loadT rfl rfl rfl hr6) (GL.callU (xv := x3) (vs := [.agg (Qk.c x5).toArray]) h trivial rfl rfl rfl ?_)
 rintro _ H8 ⟨r7, rfl, h⟩
 refine Zv (OV.not rfl) (Za (GL.nil ?_))
 exact Y1 I3 ⟨(!r7), rfl, h⟩
def Ql0 (C : Ctx) (p_s : Str) (K : Bool → Heap → Prop) (H : Heap) : Prop :=
 Qgh C p_s [46] (fun r1 r2 r3 H4 =>
 Qbg C r1 (fun r5 H6 =>
 jn (α := Bool) (fun b7 H18 =>
 K b7 H18)
 (fun J8 => ift r5
 (jn (α := Bool) (fun b11 H17 =>
 J8 b11 H17)
 (fun J12 => ift (!r3)
 (J12 true H6)
 (Qbg C r2 (fun r15 H16 =>
 J12 r15 H16) H6)))
 (J8 false H6))) H4) H
theorem Qo1 (C p_s K H) (h : Ql0 C p_s K H) : Qfr C p_s K H := by
 refine Ye Tryz.func145 rfl Tryz.ntmps145 [(0, sv p_s)] (Zo (Za (GL.nil (Zo (Zm (Zc h Qj8 ?_))))))
 rintro _ H4 ⟨r1, r2, r3, rfl, h⟩
 refine Zm (Yv (sv r1) rfl rfl (Yv (sv r2) rfl rfl (Yv (.bool r3) rfl rfl (Za (Za (Za (GL.nil (Zo (Zm (Zc h Qbr ?_))))))))))
 rintro _ H6 ⟨r5, rfl, h⟩
 refine Zm ?_
 obtain ⟨J8, h, hR9⟩ := h
 refine GL.cut (α := Bool) 7 J8 (fun b7 => [(21, .bool b7)]) ?_ ?_
 rcases h.em with ⟨u10, h⟩ | ⟨u10, h⟩
 refine Zu u10 Ym (Zu u10 (OV.not rfl) (Zu u10 Ym ?_))
 obtain ⟨J12, h, hR13⟩ := h
 refine GL.cut (α := Bool) 3 J12 (fun b11 => [(20, .bool b11), (14, .bool r5)]) ?_ ?_
 rcases h.em with ⟨u14, h⟩ | ⟨u14, h⟩
 refine Zk u14 (Zk u14 (Zu u10 (OV.pickT rfl u14 rfl) ?_))
 exact Yj I3 true h
 refine Zu u14 Ym (GL.call h (Yt u14) rfl Qbr (vs := [sv r2]) rfl ?_)
 rintro _ H16 ⟨r15, rfl, h⟩
 refine Zu u10 (OV.pickF rfl u14 rfl) ?_
 exact Yj I3 r15 h
 intro b11 H17 h
 replace h := hR13 b11 H17 h
 refine Zt u10 ?_
 exact Yj I3 b11 h
 refine Zk u10 (Zk u10 (Zk u10 (GL.skip ⟨_, rfl, .inr rfl⟩ rfl (GL.skip ⟨_, rfl, .inr rfl⟩ rfl (Zk u10 (Zn u10 ?_))))))
 exact Yj I3 false h
 intro b7 H18 h
 replace h := hR9 b7 H18 h
 refine Za (GL.nil ?_)
 exact Y1 I3 ⟨b7, rfl, h⟩
def Qf5 (C : Ctx) (p_l : Sl) (p_is : Value) (K : Bool → Heap → Prop) (H : Heap) : Prop :=
 (Value.cells p_is = #[p_is]) ∧ nw ([p_is]) (fun b1 H2 =>
 Qbo C p_l (.func (.func 197) (List.toArray []) (List.toArray [pv (some (b1, 0))]) : Value) (fun r4 H5 =>
 K (!r4) H5) H2) H
theorem QjN (C p_l p_is K H) (h : Qf5 C p_l p_is K H) : QN C p_l p_is K H := by
 refine Ye Tryz.func146 rfl Tryz.ntmps146 [(0, slv p_l), (1, p_is)] (Zo ?_)
 obtain ⟨u3, h⟩ := h
 refine GL.box (v := p_is) (cs := [p_is]) h trivial rfl rfl u3 ?_
 intro b1 H2 h
 refine Za (GL.nil (Zo (Zm (Zv (OV.makeFunc (vs := []) (us := [pv (some (b1, 0))]) rfl rfl) (Zc h Qds ?_)))))
 rintro _ H5 ⟨r4, rfl, h⟩
 refine Zv (OV.not rfl) (Za (GL.nil ?_))
 exact Y1 I3 ⟨(!r4), rfl, h⟩
def Qkw (C : Ctx) (p_s : Str) (K : Bool → Heap → Prop) (H : Heap) : Prop :=
 K (((((p_s == ([] : Str)) || (p_s == ([99, 111, 117, 110, 116] : Str))) || (p_s == ([115, 117, 109] : Str))) || (p_s == ([109, 105, 110] : Str))) || (p_s == ([109, 97, 120] : Str))) H
theorem QnE (C p_s K H) (h : Qkw C p_s K H) : Qk0 C p_s K H := by
 refine Ye Tryz.func147 rfl Tryz.ntmps147 [(0, sv p_s)] (Zo (Za (GL.nil (Zo (Zm (Zv (OV.sbin (a := p_s) (b := ([] : Str)) (v := .bool (p_s == ([] : Str))) rfl rfl rfl) (Zm (GL.cut0 3 [(8, .bool ((p_s == ([] : Str)) || (p_s == ([99, 111, 117, 110, 116] : Str)))), (0, sv p_s)] ?_ ?_))))))))
 rcases Zb (p_s == ([] : Str)) with u1 | u1
 refine Zk u1 (Zk u1 (Zt u1 ?_))
 exact GL.jump0 (fun _ _ h => h) () rfl ⟨(by rw [u1]; rfl), rfl, trivial⟩
 refine Zu u1 Ym (Zu u1 (OV.sbin (a := p_s) (b := ([99, 111, 117, 110, 116] : Str)) (v := .bool (p_s == ([99, 111, 117, 110, 116] : Str))) rfl rfl rfl) (Zn u1 ?_))
 exact GL.jump0 (fun _ _ h => h) () rfl ⟨(by rw [u1]; rfl), rfl, trivial⟩
 refine Zm (GL.cut0 3 [(12, .bool (((p_s == ([] : Str)) || (p_s == ([99, 111, 117, 110, 116] : Str))) || (p_s == ([115, 117, 109] : Str)))), (0, sv p_s)] ?_ ?_)
 rcases Zb ((p_s == ([] : Str)) || (p_s == ([99, 111, 117, 110, 116] : Str))) with u2 | u2
 refine Zk u2 (Zk u2 (Zt u2 ?_))
 exact GL.jump0 (fun _ _ h => h) () rfl ⟨(by rw [u2]; rfl), rfl, trivial⟩
 refine Zu u2 Ym (Zu u2 (OV.sbin (a := p_s) (b := ([115, 117, 109] : Str)) (v := .bool (p_s == ([115, 117, 109] : Str))) rfl rfl rfl) (Zn u2 ?_))
 exact GL.jump0 (fun _ _ h => h) () rfl ⟨(by rw [u2]; rfl), rfl, trivial⟩
 refine Zm (GL.cut0 3 [(16, .bool ((((p_s == ([] : Str)) || (p_s == ([99, 111, 117, 110, 116] : Str))) || (p_s == ([115, 117, 109] : Str))) || (p_s == ([109, 105, 110] : Str)))), (0, sv p_s)] ?_ ?_)
 rcases Zb (((p_s == ([] : Str)) || (p_s == ([99, 111, 117, 110, 116] : Str))) || (p_s == ([115, 117, 109] : Str))) with u3 | u3
 refine Zk u3 (Zk u3 (Zt u3 ?_))
 exact GL.jump0 (fun _ _ h => h) () rfl ⟨(by rw [u3]; rfl), rfl, trivial⟩
 refine Zu u3 Ym (Zu u3 (OV.sbin (a := p_s) (b := ([109, 105, 110] : Str)) (v := .bool (p_s == ([109, 105, 110] : Str))) rfl rfl rfl) (Zn u3 ?_))
 exact GL.jump0 (fun _ _ h => h) () rfl ⟨(by rw [u3]; rfl), rfl, trivial⟩
 refine Zm (GL.cut0 3 [(20, .bool (((((p_s == ([] : Str)) || (p_s == ([99, 111, 117, 110, 116] : Str))) || (p_s == ([115, 117, 109] : Str))) || (p_s == ([109, 105, 110] : Str))) || (p_s == ([109, 97, 120] : Str))))] ?_ ?_)
 rcases Zb ((((p_s == ([] : Str)) || (p_s == ([99, 111, 117, 110, 116] : Str))) || (p_s == ([115, 117, 109] : Str))) || (p_s == ([109, 105, 110] : Str))) with u4 | u4
 refine Zk u4 (Zk u4 (Zt u4 ?_))
 exact GL.jump0 (fun _ _ h => h) () rfl ⟨(by rw [u4]; rfl), trivial⟩
 refine Zu u4 Ym (Zu u4 (OV.sbin (a := p_s) (b := ([109, 97, 120] : Str)) (v := .bool (p_s == ([109, 97, 120] : Str))) rfl rfl rfl) (Zn u4 ?_))
 exact GL.jump0 (fun _ _ h => h) () rfl ⟨(by rw [u4]; rfl), trivial⟩
 refine Za (GL.nil ?_)
 exact Y1 I3 ⟨(((((p_s == ([] : Str)) || (p_s == ([99, 111, 117, 110, 116] : Str))) || (p_s == ([115, 117, 109] : Str))) || (p_s == ([109, 105, 110] : Str))) || (p_s == ([109, 97, 120] : Str))), rfl, h⟩
def Qa4 (C : Ctx) (p_s : Sl) (p_f : Value) (K : Bool → Heap → Prop) (H : Heap) : Prop :=
 Qbu C p_s p_f (fun r1 H2 =>
 K (decide ((r1 : Int) ≥ 0)) H2) H
theorem QcQ (C p_s p_f K H) (h : Qa4 C p_s p_f K H) : Qa8 C p_s p_f K H := by
 refine Ye Tryz.func148 rfl Tryz.ntmps148 [(0, slv p_s), (1, p_f)] (Zo (Za (GL.nil (Zo (Zm (Zm (Zc h QdD ?_)))))))
 rintro _ H2 ⟨r1, rfl, h⟩
 refine Zi (.bool (decide ((r1 : Int) ≥ 0))) (Za (GL.nil ?_))
 exact Y1 I3 ⟨(decide ((r1 : Int) ≥ 0)), rfl, h⟩
def Qe7 (C : Ctx) (p_x : Qj) (v0 : Nat × Nat) (K : Bool → Heap → Prop) (H : Heap) : Prop :=
 nw (Qj.c p_x) (fun b1 H2 =>
 ldV H2 v0 fun x3 =>
 ldT H2 Qj.c (b1, 0) fun x5 =>
 callU Tryz.prog C x3 [.agg (Qj.c x5).toArray] H2 (fun v H8 => ∃ (r7 : Bool), v = .bool r7 ∧
 K (!r7) H8)) H
theorem Qh6 (C p_x v0 K H) (h : Qe7 C p_x v0 K H) : Qff C p_x v0 K H := by
 refine Ye Tryz.func149 rfl Tryz.ntmps149 [(0, .agg (Qj.c p_x).toArray), (1, pv (some v0))] (Zo (GL.box (v := .agg (Qj.c p_x).toArray) (cs := Qj.c p_x) h trivial rfl rfl rfl ?_))
 intro b1 H2 h
 refine Za (GL.nil (Zo (Yl h fun x3 h => ?_)))
 obtain ⟨x5, hr6, h⟩ := h
 refine Zv (OV.loadT rfl rfl rfl hr6) (GL.callU (xv := x3) (vs := [.agg (Qj.c x5).toArray]) h trivial rfl rfl rfl ?_)
 rintro _ H8 ⟨r7, rfl, h⟩
 refine Zv (OV.not rfl) (Za (GL.nil ?_))
 exact Y1 I3 ⟨(!r7), rfl, h⟩
def Qax (C : Ctx) (p_s : Sl) (p_f : Value) (K : Bool → Heap → Prop) (H : Heap) : Prop :=
 Qa2 C p_s p_f (fun r1 H2 =>
 K (decide ((r1 : Int) ≥ 0)) H2) H
theorem Qch (C p_s p_f K H) (h : Qax C p_s p_f K H) : QaF C p_s p_f K H := by
 refine Ye Tryz.func150 rfl Tryz.ntmps150 [(0, slv p_s), (1, p_f)] (Zo (Za (GL.nil (Zo (Zm (Zm (Zc h QcO ?_)))))))
 rintro _ H2 ⟨r1, rfl, h⟩
 refine Zi (.bool (decide ((r1 : Int) ≥ 0))) (Za (GL.nil ?_))
 exact Y1 I3 ⟨(decide ((r1 : Int) ≥ 0)), rfl, h⟩
def Qel (C : Ctx) (p_x : Qd) (v0 : Nat × Nat) (K : Bool → Heap → Prop) (H : Heap) : Prop :=
 nw (Qd.c p_x) (fun b1 H2 =>
 ldV H2 v0 fun x3 =>
 ldT H2 Qd.c (b1, 0) fun x5 =>
 callU Tryz.prog C x3 [.agg (Qd.c x5).toArray] H2 (fun v H8 => ∃ (r7 : Bool), v = .bool r7 ∧
 K (!r7) H8)) H
theorem Qhd (C p_x v0 K H) (h : Qel C p_x v0 K H) : Qey C p_x v0 K H := by
 refine Ye Tryz.func151 rfl Tryz.ntmps151 [(0, .agg (Qd.c p_x).toArray), (1, pv (some v0))] (Zo (GL.box (v := .agg (Qd.c p_x).toArray) (cs := Qd.c p_x) h trivial rfl rfl rfl ?_))
 intro b1 H2 h
 refine Za (GL.nil (Zo (Yl h fun x3 h => ?_)))
 obtain ⟨x5, hr6, h⟩ := h
 refine Zv (OV.loadT rfl rfl rfl hr6) (GL.callU (xv := x3) (vs := [.agg (Qd.c x5).toArray]) h trivial rfl rfl rfl ?_)
 rintro _ H8 ⟨r7, rfl, h⟩
 refine Zv (OV.not rfl) (Za (GL.nil ?_))
 exact Y1 I3 ⟨(!r7), rfl, h⟩
def QjC (C : Ctx) (p_e : Qa) (K : Bool → Heap → Prop) (H : Heap) : Prop :=
 nw (Qa.c p_e) (fun b1 H2 =>
 ldT H2 Qa.c (b1, 0) fun x3 =>
 QcK C x3 true (fun r5 H6 =>
 K r5 H6) H2) H
theorem QmG (C p_e K H) (h : QjC C p_e K H) : Qc6 C p_e K H := by
 refine Ye Tryz.func152 rfl Tryz.ntmps152 [(0, .agg (Qa.c p_e).toArray)] (Zo (GL.box (v := .agg (Qa.c p_e).toArray) (cs := Qa.c p_e) h trivial rfl rfl rfl ?_))
 intro b1 H2 h
 refine Za (GL.nil (Zo ?_))
 obtain ⟨x3, v4, h⟩ := h
 refine Zv (OV.loadT rfl rfl rfl v4) (Zc h Qjm ?_)
 rintro _ H6 ⟨r5, rfl, h⟩
 refine Za (GL.nil ?_)
 exact Y1 I3 ⟨r5, rfl, h⟩
def QiL (C : Ctx) (p_s : Str) (K : Bool → Heap → Prop) (H : Heap) : Prop :=
 jn (α := Bool) (fun b1 H8 =>
 jn (α := Bool) (fun b9 H16 =>
 jn (α := Bool) (fun b17 H23 =>
 K b17 H23)
 (fun J18 => ift b9
 (Qie C p_s (fun r21 H22 =>
 J18 r21 H22) H16)
 (J18 false H16)))
 (fun J10 => ift b1
 (ixs p_s 0 fun c13 =>
 J10 (decide (((c13.toNat : Int) : Int) ≤ 90)) H8)
 (J10 false H8)))
 (fun J2 => ift (!(p_s == ([] : Str)))
 (ixs p_s 0 fun c5 =>
 J2 (decide (((c5.toNat : Int) : Int) ≥ 65)) H)
 (J2 false H))
theorem Qmf (C p_s K H) (h : QiL C p_s K H) : QeY C p_s K H := by
 refine Ye Tryz.func153 rfl Tryz.ntmps153 [(0, sv p_s)] (Zo (Za (GL.nil (Zo (Zm (Zv (OV.sbin (a := p_s) (b := ([] : Str)) (v := .bool (!(p_s == ([] : Str)))) rfl rfl rfl) (Zm ?_)))))))
 obtain ⟨J2, h, hR3⟩ := h
 refine GL.cut (α := Bool) 4 J2 (fun b1 => [(9, .bool b1), (0, sv p_s)]) ?_ ?_
 rcases h.em with ⟨u4, h⟩ | ⟨u4, h⟩
 refine Zu u4 Ym ?_
 obtain ⟨c5, ha6, hb7, h⟩ := h
 refine Zu u4 (OV.indexStr rfl rfl rfl ha6 hb7) (Zu u4 (OV.ibin (v := .bool (decide (((c5.toNat : Int) : Int) ≥ 65))) rfl rfl rfl) (Zt u4 ?_))
 exact Yj I3 (decide (((c5.toNat : Int) : Int) ≥ 65)) h
 refine Zk u4 (Zk u4 (Zk u4 (Zn u4 ?_)))
 exact Yj I3 false h
 intro b1 H8 h
 replace h := hR3 b1 H8 h
 refine Zm ?_
 obtain ⟨J10, h, hR11⟩ := h
 refine GL.cut (α := Bool) 4 J10 (fun b9 => [(14, .bool b9), (0, sv p_s)]) ?_ ?_
 rcases h.em with ⟨u12, h⟩ | ⟨u12, h⟩
 refine Zu u12 Ym ?_
 obtain ⟨c13, ha14, hb15, h⟩ := h
 refine Zu u12 (OV.indexStr rfl rfl rfl ha14 hb15) (Zu u12 (OV.ibin (v := .bool (decide (((c13.toNat : Int) : Int) ≤ 90))) rfl rfl rfl) (Zt u12 ?_))
 exact Yj I3 (decide (((c13.toNat : Int) : Int) ≤ 90)) h
 refine Zk u12 (Zk u12 (Zk u12 (Zn u12 ?_)))
 exact Yj I3 false h
 intro b9 H16 h
 replace h := hR11 b9 H16 h
 refine Zm ?_
 obtain ⟨J18, h, hR19⟩ := h
 refine GL.cut (α := Bool) 3 J18 (fun b17 => [(18, .bool b17)]) ?_ ?_
 rcases h.em with ⟨u20, h⟩ | ⟨u20, h⟩
 refine Zu u20 Ym (GL.call h (Yt u20) rfl QlQ (vs := [sv p_s]) rfl ?_)
 rintro _ H22 ⟨r21, rfl, h⟩
 refine Zt u20 ?_
 exact Yj I3 r21 h
 refine Zk u20 (Zk u20 (Zn u20 ?_))
 exact Yj I3 false h
 intro b17 H23 h
 replace h := hR19 b17 H23 h
 refine Za (GL.nil ?_)
 exact Y1 I3 ⟨b17, rfl, h⟩
def QiK (C : Ctx) (p_a : Qf) (p_b : Qf) (K : Bool → Heap → Prop) (H : Heap) : Prop :=
 nw (Qf.c p_a) (fun b1 H2 =>
 nw (Qf.c p_b) (fun b3 H4 =>
 ldS H4 ((b1, 0).1, (b1, 0).2 + 0) fun x5 =>
 ldS H4 ((b3, 0).1, (b3, 0).2 + 0) fun x7 =>
 jn (α := Bool) (fun b9 H19 =>
 K b9 H19)
 (fun J10 => ift (x5 == x7)
 (ldL H4 ((b1, 0).1, (b1, 0).2 + 1) fun x13 =>
 ldL H4 ((b3, 0).1, (b3, 0).2 + 1) fun x15 =>
 QB C x13 x15 (.func (.func 164) (List.toArray []) (List.toArray []) : Value) (fun r17 H18 =>
 J10 r17 H18) H4)
 (J10 false H4))) H2) H
theorem Qme (C p_a p_b K H) (h : QiK C p_a p_b K H) : QbS C p_a p_b K H := by
 refine Ye Tryz.func164 rfl Tryz.ntmps164 [(0, .agg (Qf.c p_a).toArray), (1, .agg (Qf.c p_b).toArray)] (Zo (GL.box (v := .agg (Qf.c p_a).toArray) (cs := Qf.c p_a) h trivial rfl rfl rfl ?_))
 intro b1 H2 h
 refine GL.box (v := .agg (Qf.c p_b).toArray) (cs := Qf.c p_b) h trivial rfl rfl rfl ?_
 intro b3 H4 h
 refine Za (GL.nil (Zo (Zf (Yl h fun x5 h => ?_))))
 refine Zf (Yl h fun x7 h => ?_)
 refine Zv (OV.sbin (a := x5) (b := x7) (v := .bool (x5 == x7)) rfl rfl rfl) (Zm ?_)
 obtain ⟨J10, h, hR11⟩ := h
 refine GL.cut (α := Bool) 6 J10 (fun b9 => [(16, .bool b9)]) ?_ ?_
 rcases h.em with ⟨u12, h⟩ | ⟨u12, h⟩
 refine Zu u12 Yf ?_
 obtain ⟨x13, v14, h⟩ := h
 refine Zu u12 (Yo v14) (Zu u12 Yf ?_)
 obtain ⟨x15, v16, h⟩ := h
 refine Zu u12 (Yo v16) (GL.call h (Yt u12) rfl QbE (vs := [slv x13, slv x15, .func (.func 164) (List.toArray []) (List.toArray [])]) rfl ?_)
 rintro _ H18 ⟨r17, rfl, h⟩
 refine Zt u12 ?_
 exact Yj I3 r17 h
 refine Zk u12 (Zk u12 (Zk u12 (Zk u12 (Zk u12 (Zn u12 ?_)))))
 exact Yj I3 false h
 intro b9 H19 h
 replace h := hR11 b9 H19 h
 refine Za (GL.nil ?_)
 exact Y1 I3 ⟨b9, rfl, h⟩
def Qh0 (C : Ctx) (p_a : Qb) (p_b : Qb) (K : Bool → Heap → Prop) (H : Heap) : Prop :=
 nw (Qb.c p_a) (fun b1 H2 =>
 nw (Qb.c p_b) (fun b3 H4 =>
 ldI H4 .u8 ((b1, 0).1, (b1, 0).2 + 0) fun x5 =>
 ldI H4 .u8 ((b3, 0).1, (b3, 0).2 + 0) fun x7 =>
 jn (α := Bool) (fun b9 H17 =>
 jn (α := Bool) (fun b18 H26 =>
 jn (α := Bool) (fun b27 H37 =>
 K b27 H37)
 (fun J28 => ift b18
 (ldL H26 ((b1, 0).1, (b1, 0).2 + 3) fun x31 =>
 ldL H26 ((b3, 0).1, (b3, 0).2 + 3) fun x33 =>
 Qz C x31 x33 (.func (.func 165) (List.toArray []) (List.toArray []) : Value) (fun r35 H36 =>
 J28 r35 H36) H26)
 (J28 false H26)))
 (fun J19 => ift b9
 (ldS H17 ((b1, 0).1, (b1, 0).2 + 2) fun x22 =>
 ldS H17 ((b3, 0).1, (b3, 0).2 + 2) fun x24 =>
 J19 (x22 == x24) H17)
 (J19 false H17)))
 (fun J10 => ift ((x5 : Int) == x7)
 (ldI H4 .i64 ((b1, 0).1, (b1, 0).2 + 1) fun x13 =>
 ldI H4 .i64 ((b3, 0).1, (b3, 0).2 + 1) fun x15 =>
 J10 ((x13 : Int) == x15) H4)
 (J10 false H4))) H2) H
theorem Qlz (C p_a p_b K H) (h : Qh0 C p_a p_b K H) : QbA C p_a p_b K H := by
 refine Ye Tryz.func165 rfl Tryz.ntmps165 [(0, .agg (Qb.c p_a).toArray), (1, .agg (Qb.c p_b).toArray)] (Zo (GL.box (v := .agg (Qb.c p_a).toArray) (cs := Qb.c p_a) h trivial rfl rfl rfl ?_))
 intro b1 H2 h
 refine GL.box (v := .agg (Qb.c p_b).toArray) (cs := Qb.c p_b) h trivial rfl rfl rfl ?_
 intro b3 H4 h
 refine Za (GL.nil (Zo (Zf (Yl h fun x5 h => ?_))))
 refine Zf (Yl h fun x7 h => ?_)
 refine Zi (.bool ((x5 : Int) == x7)) (Zm ?_)
 obtain ⟨J10, h, hR11⟩ := h
 refine GL.cut (α := Bool) 6 J10 (fun b9 => [(16, .bool b9), (2, pv (some (b1, 0))), (3, pv (some (b3, 0)))]) ?_ ?_
 rcases h.em with ⟨u12, h⟩ | ⟨u12, h⟩
 refine Zu u12 Yf ?_
 obtain ⟨x13, v14, h⟩ := h
 refine Zu u12 (Yo v14) (Zu u12 Yf ?_)
 obtain ⟨x15, v16, h⟩ := h
 refine Zu u12 (Yo v16) (Zu u12 (OV.ibin (v := .bool ((x13 : Int) == x15)) rfl rfl rfl) (Zt u12 ?_))
 exact Yj I3 ((x13 : Int) == x15) h
 refine Zk u12 (Zk u12 (Zk u12 (Zk u12 (Zk u12 (Zn u12 ?_)))))
 exact Yj I3 false h
 intro b9 H17 h
 replace h := hR11 b9 H17 h
 refine Zm ?_
 obtain ⟨J19, h, hR20⟩ := h
 refine GL.cut (α := Bool) 6 J19 (fun b18 => [(23, .bool b18), (2, pv (some (b1, 0))), (3, pv (some (b3, 0)))]) ?_ ?_
 rcases h.em with ⟨u21, h⟩ | ⟨u21, h⟩
 refine Zu u21 Yf ?_
 obtain ⟨x22, v23, h⟩ := h
 refine Zu u21 (Yo v23) (Zu u21 Yf ?_)
 obtain ⟨x24, v25, h⟩ := h
 refine Zu u21 (Yo v25) (Zu u21 (OV.sbin (a := x22) (b := x24) (v := .bool (x22 == x24)) rfl rfl rfl) (Zt u21 ?_))
 exact Yj I3 (x22 == x24) h
 refine Zk u21 (Zk u21 (Zk u21 (Zk u21 (Zk u21 (Zn u21 ?_)))))
 exact Yj I3 false h
 intro b18 H26 h
 replace h := hR20 b18 H26 h
 refine Zm ?_
 obtain ⟨J28, h, hR29⟩ := h
 refine GL.cut (α := Bool) 6 J28 (fun b27 => [(30, .bool b27)]) ?_ ?_
 rcases h.em with ⟨u30, h⟩ | ⟨u30, h⟩
 refine Zu u30 Yf ?_
 obtain ⟨x31, v32, h⟩ := h
 refine Zu u30 (Yo v32) (Zu u30 Yf ?_)
 obtain ⟨x33, v34, h⟩ := h
 refine Zu u30 (Yo v34) (GL.call h (Yt u30) rfl Qbi (vs := [slv x31, slv x33, .func (.func 165) (List.toArray []) (List.toArray [])]) rfl ?_)
 rintro _ H36 ⟨r35, rfl, h⟩
 refine Zt u30 ?_
 exact Yj I3 r35 h
 refine Zk u30 (Zk u30 (Zk u30 (Zk u30 (Zk u30 (Zn u30 ?_)))))
 exact Yj I3 false h
 intro b27 H37 h
 replace h := hR29 b27 H37 h
 refine Za (GL.nil ?_)
 exact Y1 I3 ⟨b27, rfl, h⟩
def QlZ (C : Ctx) (p_e : Qa) (p_pattern : Bool) (K : Bool → Heap → Prop) (H : Heap) : Prop :=
 nw (Qa.c p_e) (fun b1 H2 =>
 nw ([.bool p_pattern]) (fun b3 H4 =>
 ldL H4 ((b1, 0).1, (b1, 0).2 + 8) fun x5 =>
 jn (α := Bool) (fun x8 H9 =>
 jn (α := Bool) (fun b102 H110 =>
 jn (α := Bool) (fun b111 H119 =>
 K b111 H119)
 (fun J112 => ift b102
 (ldL H110 ((b1, 0).1, (b1, 0).2 + 8) fun x115 =>
 QN C x115 (.func (.func 209) (List.toArray []) (List.toArray [pv (some (b3, 0))]) : Value) (fun r117 H118 =>
 J112 r117 H118) H110)
 (J112 false H110)))
 (fun J103 => ift x8
 (ldT H9 Qb.c ((b1, 0).1, (b1, 0).2 + 4) fun x106 =>
 Qet C x106 (fun r108 H109 =>
 J103 r108 H109) H9)
 (J103 false H9)))
 (fun J7 => ldI H4 .u8 ((b1, 0).1, (b1, 0).2 + 0) fun x11 =>
 ift ((x11 : Int) == 1)
 (ldI H4 .u8 (((b1, 0).1, (b1, 0).2 + 4).1, ((b1, 0).1, (b1, 0).2 + 4).2 + 0) fun x14 =>
 jn (α := Bool) (fun b17 H25 =>
 jn (α := Bool) (fun b27 H33 =>
 K b27 H33)
 (fun J28 => ift (b17 && (((Sl.len x5 : Int) : Int) == 0))
 (ldS H25 ((b1, 0).1, (b1, 0).2 + 3) fun x31 =>
 J28 (x31 == ([] : Str)) H25)
 (J28 false H25)))
 (fun J18 => ift ((decide ((x14 : Int) ≥ 1)) && (decide ((x14 : Int) ≤ 4)))
 (ldT H4 Qb.c ((b1, 0).1, (b1, 0).2 + 4) fun x21 =>
 Qb3 C x21 (fun r23 H24 =>
 J18 ((r23 : Int) == 0) H24) H4)
 (J18 false H4)))
 (ift ((x11 : Int) == 2)
 (ldS H4 ((b1, 0).1, (b1, 0).2 + 3) fun x35 =>
 QeY C x35 (fun r37 H38 =>
 J7 (r37 && (((Sl.len x5 : Int) : Int) == 0)) H38) H4)
 (ift ((x11 : Int) == 3)
 (ldB H4 (b3, 0) fun x41 =>
 jn (α := Bool) (fun b43 H49 =>
 J7 (b43 && (((Sl.len x5 : Int) : Int) == 0)) H49)
 (fun J44 => ift x41
 (ldS H4 ((b1, 0).1, (b1, 0).2 + 3) fun x47 =>
 J44 (x47 == ([] : Str)) H4)
 (J44 false H4)))
 (ift ((x11 : Int) == 4)
 (ldS H4 ((b1, 0).1, (b1, 0).2 + 3) fun x52 =>
 J7 (((x52 == ([] : Str)) && (((Sl.len x5 : Int) : Int) != 1)) && (decide (((Sl.len x5 : Int) : Int) ≤ 16))) H4)
 (ift ((x11 : Int) == 5)
 (ldS H4 ((b1, 0).1, (b1, 0).2 + 3) fun x57 =>
 Qfr C x57 (fun r59 H60 =>
 J7 (r59 && (decide (((Sl.len x5 : Int) : Int) ≤ 8))) H60) H4)
 (ift ((x11 : Int) == 6)
 (dr H4 fun Hs63 =>
 ldS Hs63 ((b1, 0).1, (b1, 0).2 + 3) fun x65 =>
 Qjc C (fun r68 H69 =>
 Heap.le Hs63 H69 ∧
 lkM sv (fun x : Int => (.int .i64 x : Value)) 0 r68 x65 (fun x71 is72 =>
 Heap.le Hs63 H69 ∧
 ldB H69 (b3, 0) fun x74 =>
 J7 (((!x74) && (decide ((x71 : Int) > 0))) && ((x71 : Int) == (Sl.len x5 : Int))) H69) H69) H4)
 (ift ((x11 : Int) == 7)
 (ldB H4 (b3, 0) fun x79 =>
 jn (α := Bool) (fun b81 H89 =>
 J7 (b81 && (((Sl.len x5 : Int) : Int) == 1)) H89)
 (fun J82 => ift (!x79)
 (ldS H4 ((b1, 0).1, (b1, 0).2 + 3) fun x85 =>
 Qbg C x85 (fun r87 H88 =>
 J82 r87 H88) H4)
 (J82 false H4)))
 (ift ((x11 : Int) == 8)
 (ldB H4 (b3, 0) fun x92 =>
 jn (α := Bool) (fun b94 H100 =>
 J7 (b94 && (((Sl.len x5 : Int) : Int) == 3)) H100)
 (fun J95 => ift (!x92)
 (ldS H4 ((b1, 0).1, (b1, 0).2 + 3) fun x98 =>
 J95 (x98 == ([] : Str)) H4)
 (J95 false H4)))
 (J7 false H4)))))))))) H2) H
theorem Qo0 (C p_e p_pattern K H) (h : QlZ C p_e p_pattern K H) : QcK C p_e p_pattern K H := by
 refine Ye Tryz.func168 rfl Tryz.ntmps168 [(0, .agg (Qa.c p_e).toArray), (1, .bool p_pattern)] (Zo (GL.box (v := .agg (Qa.c p_e).toArray) (cs := Qa.c p_e) h trivial rfl rfl rfl ?_))
 intro b1 H2 h
 refine GL.box (v := .bool p_pattern) (cs := [.bool p_pattern]) h trivial rfl rfl rfl ?_
 intro b3 H4 h
 refine Za (GL.nil (Zo (Zf (Yl h fun x5 h => ?_))))
 refine Zq (Za (GL.nil (Zo (Za (GL.nil ?_)))))
 obtain ⟨J7, h, hR10⟩ := h
 refine GC.join (α := Bool) J7 (fun x8 => [(6, .bool x8), (2, pv (some (b1, 0))), (3, pv (some (b3, 0)))]) ?_ ?_
 refine Zo (Zf (Yl h fun x11 h => ?_))
 refine GL.nil (GC.block (Zo (Zi (.bool ((x11 : Int) == 1)) (Za (GL.nil (Yd h (fun u13 h => ?_) fun u13 h => ?_))))))
 refine Zo (Zf (Zf (Yl h fun x14 h => ?_)))
 refine Za (GL.nil (Zo (Zm (Zi (.bool (decide ((x14 : Int) ≥ 1))) (Zm (GL.cut0 3 [(24, .bool ((decide ((x14 : Int) ≥ 1)) && (decide ((x14 : Int) ≤ 4)))), (2, pv (some (b1, 0))), (5, .int .i64 (Sl.len x5 : Int))] ?_ ?_))))))
 rcases Zb (decide ((x14 : Int) ≥ 1)) with u16 | u16
 refine Zu u16 Ym (Zu u16 (OV.ibin (v := .bool (decide ((x14 : Int) ≤ 4))) rfl rfl rfl) (Zt u16 ?_))
 exact GL.jump0 (fun _ _ h => h) () rfl ⟨(by rw [u16]; rfl), rfl, rfl, trivial⟩
 refine Zk u16 (Zk u16 (Zn u16 ?_))
 exact GL.jump0 (fun _ _ h => h) () rfl ⟨(by rw [u16]; rfl), rfl, rfl, trivial⟩
 refine Zm ?_
 obtain ⟨J18, h, hR19⟩ := h
 refine GL.cut (α := Bool) 5 J18 (fun b17 => [(30, .bool b17), (2, pv (some (b1, 0))), (5, .int .i64 (Sl.len x5 : Int))]) ?_ ?_
 rcases h.em with ⟨u20, h⟩ | ⟨u20, h⟩
 refine Zu u20 Yf ?_
 obtain ⟨x21, v22, h⟩ := h
 refine Zu u20 (OV.loadT rfl rfl rfl v22) (GL.call h (Yt u20) rfl Qkb (vs := [.agg (Qb.c x21).toArray]) rfl ?_)
 rintro _ H24 ⟨r23, rfl, h⟩
 refine Zu u20 (OV.ibin (v := .bool ((r23 : Int) == 0)) rfl rfl rfl) (Zt u20 ?_)
 exact Yj I3 ((r23 : Int) == 0) h
 refine Zk u20 (Zk u20 (Zk u20 (Zk u20 (Zn u20 ?_))))
 exact Yj I3 false h
 intro b17 H25 h
 replace h := hR19 b17 H25 h
 refine Zm (GL.cut0 3 [(34, .bool (b17 && (((Sl.len x5 : Int) : Int) == 0))), (2, pv (some (b1, 0)))] ?_ ?_)
 rcases Bool.eq_false_or_eq_true b17 with u26 | u26
 refine Zu u26 Ym (Zu u26 (OV.ibin (v := .bool (((Sl.len x5 : Int) : Int) == 0)) rfl rfl rfl) (Zt u26 ?_))
 exact GL.jump0 (fun _ _ h => h) () rfl ⟨(by rw [u26]; rfl), rfl, trivial⟩
 refine Zk u26 (Zk u26 (Zn u26 ?_))
 exact GL.jump0 (fun _ _ h => h) () rfl ⟨(by rw [u26]; rfl), rfl, trivial⟩
 refine Zm ?_
 obtain ⟨J28, h, hR29⟩ := h
 refine GL.cut (α := Bool) 4 J28 (fun b27 => [(39, .bool b27)]) ?_ ?_
 rcases h.em with ⟨u30, h⟩ | ⟨u30, h⟩
 refine Zu u30 Yf ?_
 obtain ⟨x31, v32, h⟩ := h
 refine Zu u30 (Yo v32) (Zu u30 (OV.sbin (a := x31) (b := ([] : Str)) (v := .bool (x31 == ([] : Str))) rfl rfl rfl) (Zt u30 ?_))
 exact Yj I3 (x31 == ([] : Str)) h
 refine Zk u30 (Zk u30 (Zk u30 (Zn u30 ?_)))
 exact Yj I3 false h
 intro b27 H33 h
 replace h := hR29 b27 H33 h
 refine Za (GL.nil ?_)
 exact Y1 I3 ⟨b27, rfl, h⟩
 refine Zo (Zi (.bool ((x11 : Int) == 2)) (Za (GL.nil (Yd h (fun u34 h => ?_) fun u34 h => ?_))))
 refine GC.region (Zf (Yl h fun x35 h => ?_))
 refine Zc h QiB ?_
 rintro _ H38 ⟨r37, rfl, h⟩
 refine Zm (GL.cut0 3 [(48, .bool (r37 && (((Sl.len x5 : Int) : Int) == 0))), (2, pv (some (b1, 0))), (3, pv (some (b3, 0)))] ?_ ?_)
 rcases Bool.eq_false_or_eq_true r37 with u39 | u39
 refine Zu u39 Ym (Zu u39 (OV.ibin (v := .bool (((Sl.len x5 : Int) : Int) == 0)) rfl rfl rfl) (Zt u39 ?_))
 exact GL.jump0 (fun _ _ h => h) () rfl ⟨(by rw [u39]; rfl), rfl, rfl, trivial⟩
 refine Zk u39 (Zk u39 (Zn u39 ?_))
 exact GL.jump0 (fun _ _ h => h) () rfl ⟨(by rw [u39]; rfl), rfl, rfl, trivial⟩
 refine Za ?_
 exact Yj I3 (r37 && (((Sl.len x5 : Int) : Int) == 0)) h
 refine Zo (Zi (.bool ((x11 : Int) == 3)) (Za (GL.nil (Yd h (fun u40 h => ?_) fun u40 h => ?_))))
 refine GC.region (Yl h fun x41 h => ?_)
 refine Zm ?_
 obtain ⟨J44, h, hR45⟩ := h
 refine GL.cut (α := Bool) 4 J44 (fun b43 => [(56, .bool b43), (2, pv (some (b1, 0))), (3, pv (some (b3, 0))), (5, .int .i64 (Sl.len x5 : Int))]) ?_ ?_
 rcases h.em with ⟨u46, h⟩ | ⟨u46, h⟩
 refine Zu u46 Yf ?_
 obtain ⟨x47, v48, h⟩ := h
 refine Zu u46 (Yo v48) (Zu u46 (OV.sbin (a := x47) (b := ([] : Str)) (v := .bool (x47 == ([] : Str))) rfl rfl rfl) (Zt u46 ?_))
 exact Yj I3 (x47 == ([] : Str)) h
 refine Zk u46 (Zk u46 (Zk u46 (Zn u46 ?_)))
 exact Yj I3 false h
 intro b43 H49 h
 replace h := hR45 b43 H49 h
 refine Zm (GL.cut0 3 [(60, .bool (b43 && (((Sl.len x5 : Int) : Int) == 0))), (2, pv (some (b1, 0))), (3, pv (some (b3, 0)))] ?_ ?_)
 rcases Bool.eq_false_or_eq_true b43 with u50 | u50
 refine Zu u50 Ym (Zu u50 (OV.ibin (v := .bool (((Sl.len x5 : Int) : Int) == 0)) rfl rfl rfl) (Zt u50 ?_))
 exact GL.jump0 (fun _ _ h => h) () rfl ⟨(by rw [u50]; rfl), rfl, rfl, trivial⟩
 refine Zk u50 (Zk u50 (Zn u50 ?_))
 exact GL.jump0 (fun _ _ h => h) () rfl ⟨(by rw [u50]; rfl), rfl, rfl, trivial⟩
 refine Za ?_
 exact Yj I3 (b43 && (((Sl.len x5 : Int) : Int) == 0)) h
 refine Zo (Zi (.bool ((x11 : Int) == 4)) (Za (GL.nil (Yd h (fun u51 h => ?_) fun u51 h => ?_))))
 refine GC.region (Zf (Yl h fun x52 h => ?_))
 refine Zv (OV.sbin (a := x52) (b := ([] : Str)) (v := .bool (x52 == ([] : Str))) rfl rfl rfl) (Zm (GL.cut0 3 [(69, .bool ((x52 == ([] : Str)) && (((Sl.len x5 : Int) : Int) != 1))), (2, pv (some (b1, 0))), (3, pv (some (b3, 0))), (5, .int .i64 (Sl.len x5 : Int))] ?_ ?_))
 rcases Zb (x52 == ([] : Str)) with u54 | u54
 refine Zu u54 Ym (Zu u54 (OV.ibin (v := .bool (((Sl.len x5 : Int) : Int) != 1)) rfl rfl rfl) (Zt u54 ?_))
 exact GL.jump0 (fun _ _ h => h) () rfl ⟨(by rw [u54]; rfl), rfl, rfl, rfl, trivial⟩
 refine Zk u54 (Zk u54 (Zn u54 ?_))
 exact GL.jump0 (fun _ _ h => h) () rfl ⟨(by rw [u54]; rfl), rfl, rfl, rfl, trivial⟩
 refine Zm (GL.cut0 3 [(73, .bool (((x52 == ([] : Str)) && (((Sl.len x5 : Int) : Int) != 1)) && (decide (((Sl.len x5 : Int) : Int) ≤ 16)))), (2, pv (some (b1, 0))), (3, pv (some (b3, 0)))] ?_ ?_)
 rcases Zb ((x52 == ([] : Str)) && (((Sl.len x5 : Int) : Int) != 1)) with u55 | u55
 refine Zu u55 Ym (Zu u55 (OV.ibin (v := .bool (decide (((Sl.len x5 : Int) : Int) ≤ 16))) rfl rfl rfl) (Zt u55 ?_))
 exact GL.jump0 (fun _ _ h => h) () rfl ⟨(by rw [u55]; rfl), rfl, rfl, trivial⟩
 refine Zk u55 (Zk u55 (Zn u55 ?_))
 exact GL.jump0 (fun _ _ h => h) () rfl ⟨(by rw [u55]; rfl), rfl, rfl, trivial⟩
 refine Za ?_
 exact Yj I3 (((x52 == ([] : Str)) && (((Sl.len x5 : Int) : Int) != 1)) && (decide (((Sl.len x5 : Int) : Int) ≤ 16))) h
 refine Zo (Zi (.bool ((x11 : Int) == 5)) (Za (GL.nil (Yd h (fun u56 h => ?_) fun u56 h => ?_))))
 refine GC.region (Zf (Yl h fun x57 h => ?_))
 refine Zc h QgY ?_
 rintro _ H60 ⟨r59, rfl, h⟩
 refine Zm (GL.cut0 3 [(82, .bool (r59 && (decide (((Sl.len x5 : Int) : Int) ≤ 8)))), (2, pv (some (b1, 0))), (3, pv (some (b3, 0)))] ?_ ?_)
 rcases Bool.eq_false_or_eq_true r59 with u61 | u61
 refine Zu u61 Ym (Zu u61 (OV.ibin (v := .bool (decide (((Sl.len x5 : Int) : Int) ≤ 8))) rfl rfl rfl) (Zt u61 ?_))
 exact GL.jump0 (fun _ _ h => h) () rfl ⟨(by rw [u61]; rfl), rfl, rfl, trivial⟩
 refine Zk u61 (Zk u61 (Zn u61 ?_))
 exact GL.jump0 (fun _ _ h => h) () rfl ⟨(by rw [u61]; rfl), rfl, rfl, trivial⟩
 refine Za ?_
 exact Yj I3 (r59 && (decide (((Sl.len x5 : Int) : Int) ≤ 8))) h
 refine Zo (Zi (.bool ((x11 : Int) == 6)) (Za (GL.nil (Yd h (fun u62 h => ?_) fun u62 h => ?_))))
 refine GC.seq ?_
 obtain ⟨Hs63, hle64, h⟩ := h
 refine GC.any (Hs := Hs63) (by kernel_rfl) hle64 (Zp 1 rfl Yf ?_)
 obtain ⟨x65, v66, h⟩ := h
 refine Zp 2 rfl (Yo v66) (GA.eff 0 rfl (by kernel_rfl) (Zc h QoJ ?_))
 rintro _ H69 ⟨r68, rfl, h⟩
 obtain ⟨hle67, h⟩ := h
 refine GA.back hle67 (GA.eff 3 rfl (by kernel_rfl) ?_)
 obtain ⟨x71, is72, v73, h⟩ := h
 refine Zv (OV.lookup1 (v := .int .i64 x71) (ke := sv) (enc := (fun x : Int => (.int .i64 x : Value))) (z := 0) (q := r68) (k := x65) (x := x71) (b := is72) rfl v73 rfl rfl rfl (kText rfl) rfl) ?_
 obtain ⟨hle70, h⟩ := h
 refine GA.back hle70 (Zp 4 rfl Ya (GA.done (by kernel_rfl) (GL.nil (GC.region (Yl h fun x74 h => ?_)))))
 refine Zv (OV.not rfl) (Zm (GL.cut0 3 [(94, .bool ((!x74) && (decide ((x71 : Int) > 0)))), (2, pv (some (b1, 0))), (3, pv (some (b3, 0))), (5, .int .i64 (Sl.len x5 : Int)), (8, .int .i64 x71)] ?_ ?_))
 rcases Zb (!x74) with u76 | u76
 refine Zu u76 Ym (Zu u76 (OV.ibin (v := .bool (decide ((x71 : Int) > 0))) rfl rfl rfl) (Zt u76 ?_))
 exact GL.jump0 (fun _ _ h => h) () rfl ⟨(by rw [u76]; rfl), rfl, rfl, rfl, rfl, trivial⟩
 refine Zk u76 (Zk u76 (Zn u76 ?_))
 exact GL.jump0 (fun _ _ h => h) () rfl ⟨(by rw [u76]; rfl), rfl, rfl, rfl, rfl, trivial⟩
 refine Zm (GL.cut0 4 [(99, .bool (((!x74) && (decide ((x71 : Int) > 0))) && ((x71 : Int) == (Sl.len x5 : Int)))), (2, pv (some (b1, 0))), (3, pv (some (b3, 0)))] ?_ ?_)
 rcases Zb ((!x74) && (decide ((x71 : Int) > 0))) with u77 | u77
 refine Zu u77 Ym (Zu u77 Ym (Zu u77 (OV.ibin (v := .bool ((x71 : Int) == (Sl.len x5 : Int))) rfl rfl rfl) (Zt u77 ?_)))
 exact GL.jump0 (fun _ _ h => h) () rfl ⟨(by rw [u77]; rfl), rfl, rfl, trivial⟩
 refine Zk u77 (Zk u77 (Zk u77 (Zn u77 ?_)))
 exact GL.jump0 (fun _ _ h => h) () rfl ⟨(by rw [u77]; rfl), rfl, rfl, trivial⟩
 refine Za ?_
 exact Yj I3 (((!x74) && (decide ((x71 : Int) > 0))) && ((x71 : Int) == (Sl.len x5 : Int))) h
 refine Zo (Zi (.bool ((x11 : Int) == 7)) (Za (GL.nil (Yd h (fun u78 h => ?_) fun u78 h => ?_))))
 refine GC.region (Yl h fun x79 h => ?_)
 refine Zv (OV.not rfl) (Zm ?_)
 obtain ⟨J82, h, hR83⟩ := h
 refine GL.cut (α := Bool) 4 J82 (fun b81 => [(108, .bool b81), (2, pv (some (b1, 0))), (3, pv (some (b3, 0))), (5, .int .i64 (Sl.len x5 : Int))]) ?_ ?_
 rcases h.em with ⟨u84, h⟩ | ⟨u84, h⟩
 refine Zu u84 Yf ?_
 obtain ⟨x85, v86, h⟩ := h
 refine Zu u84 (Yo v86) (GL.call h (Yt u84) rfl Qbr (vs := [sv x85]) rfl ?_)
 rintro _ H88 ⟨r87, rfl, h⟩
 refine Zt u84 ?_
 exact Yj I3 r87 h
 refine Zk u84 (Zk u84 (Zk u84 (Zn u84 ?_)))
 exact Yj I3 false h
 intro b81 H89 h
 replace h := hR83 b81 H89 h
 refine Zm (GL.cut0 3 [(112, .bool (b81 && (((Sl.len x5 : Int) : Int) == 1))), (2, pv (some (b1, 0))), (3, pv (some (b3, 0)))] ?_ ?_)
 rcases Bool.eq_false_or_eq_true b81 with u90 | u90
 refine Zu u90 Ym (Zu u90 (OV.ibin (v := .bool (((Sl.len x5 : Int) : Int) == 1)) rfl rfl rfl) (Zt u90 ?_))
 exact GL.jump0 (fun _ _ h => h) () rfl ⟨(by rw [u90]; rfl), rfl, rfl, trivial⟩
 refine Zk u90 (Zk u90 (Zn u90 ?_))
 exact GL.jump0 (fun _ _ h => h) () rfl ⟨(by rw [u90]; rfl), rfl, rfl, trivial⟩
 refine Za ?_
 exact Yj I3 (b81 && (((Sl.len x5 : Int) : Int) == 1)) h
 refine Zo (Zi (.bool ((x11 : Int) == 8)) (Za (GL.nil (Yd h (fun u91 h => ?_) fun u91 h => ?_))))
 refine GC.region (Yl h fun x92 h => ?_)
 refine Zv (OV.not rfl) (Zm ?_)
 obtain ⟨J95, h, hR96⟩ := h
 refine GL.cut (α := Bool) 4 J95 (fun b94 => [(121, .bool b94), (2, pv (some (b1, 0))), (3, pv (some (b3, 0))), (5, .int .i64 (Sl.len x5 : Int))]) ?_ ?_
 rcases h.em with ⟨u97, h⟩ | ⟨u97, h⟩
 refine Zu u97 Yf ?_
 obtain ⟨x98, v99, h⟩ := h
 refine Zu u97 (Yo v99) (Zu u97 (OV.sbin (a := x98) (b := ([] : Str)) (v := .bool (x98 == ([] : Str))) rfl rfl rfl) (Zt u97 ?_))
 exact Yj I3 (x98 == ([] : Str)) h
 refine Zk u97 (Zk u97 (Zk u97 (Zn u97 ?_)))
 exact Yj I3 false h
 intro b94 H100 h
 replace h := hR96 b94 H100 h
 refine Zm (GL.cut0 3 [(125, .bool (b94 && (((Sl.len x5 : Int) : Int) == 3))), (2, pv (some (b1, 0))), (3, pv (some (b3, 0)))] ?_ ?_)
 rcases Bool.eq_false_or_eq_true b94 with u101 | u101
 refine Zu u101 Ym (Zu u101 (OV.ibin (v := .bool (((Sl.len x5 : Int) : Int) == 3)) rfl rfl rfl) (Zt u101 ?_))
 exact GL.jump0 (fun _ _ h => h) () rfl ⟨(by rw [u101]; rfl), rfl, rfl, trivial⟩
 refine Zk u101 (Zk u101 (Zn u101 ?_))
 exact GL.jump0 (fun _ _ h => h) () rfl ⟨(by rw [u101]; rfl), rfl, rfl, trivial⟩
 refine Za ?_
 exact Yj I3 (b94 && (((Sl.len x5 : Int) : Int) == 3)) h
 exact Yk I3 false h
 intro x8 H9 h
 replace h := hR10 x8 H9 h
 refine Zo (Zm (Zm ?_))
 obtain ⟨J103, h, hR104⟩ := h
 refine GL.cut (α := Bool) 4 J103 (fun b102 => [(131, .bool b102), (2, pv (some (b1, 0))), (3, pv (some (b3, 0)))]) ?_ ?_
 rcases h.em with ⟨u105, h⟩ | ⟨u105, h⟩
 refine Zu u105 Yf ?_
 obtain ⟨x106, v107, h⟩ := h
 refine Zu u105 (OV.loadT rfl rfl rfl v107) (GL.call h (Yt u105) rfl Qpq (vs := [.agg (Qb.c x106).toArray]) rfl ?_)
 rintro _ H109 ⟨r108, rfl, h⟩
 refine Zt u105 ?_
 exact Yj I3 r108 h
 refine Zk u105 (Zk u105 (Zk u105 (Zn u105 ?_)))
 exact Yj I3 false h
 intro b102 H110 h
 replace h := hR104 b102 H110 h
 refine Zm ?_
 obtain ⟨J112, h, hR113⟩ := h
 refine GL.cut (α := Bool) 5 J112 (fun b111 => [(137, .bool b111)]) ?_ ?_
 rcases h.em with ⟨u114, h⟩ | ⟨u114, h⟩
 refine Zu u114 Yf ?_
 obtain ⟨x115, v116, h⟩ := h
 refine Zu u114 (Yo v116) (Zu u114 (OV.makeFunc (vs := []) (us := [pv (some (b3, 0))]) rfl rfl) (GL.call h (Yt u114) rfl Qeb (vs := [slv x115, .func (.func 209) (List.toArray []) (List.toArray [pv (some (b3, 0))])]) rfl ?_))
 rintro _ H118 ⟨r117, rfl, h⟩
 refine Zt u114 ?_
 exact Yj I3 r117 h
 refine Zk u114 (Zk u114 (Zk u114 (Zk u114 (Zn u114 ?_))))
 exact Yj I3 false h
 intro b111 H119 h
 replace h := hR113 b111 H119 h
 refine Za (GL.nil ?_)
 exact Y1 I3 ⟨b111, rfl, h⟩
def Qlr (C : Ctx) (p_v : Qb) (K : Str → Heap → Prop) (H : Heap) : Prop :=
 nw (Qb.c p_v) (fun b1 H2 =>
 ldT H2 Qb.c (b1, 0) fun x3 =>
 Qb3 C x3 (fun r5 H6 =>
 ift ((r5 : Int) != 0)
 (K [] H6)
 (nwB 85 5 (fun b8 H9 =>
 nw ([.nilFunc]) (fun b10 H11 =>
 nw ([.nilFunc]) (fun b12 H13 =>
 st (b12, 0) (.func (.func 210) (List.toArray []) (List.toArray [pv (some (b8, 0)), pv (some (b10, 0))])) (fun H14 =>
 st (b10, 0) (.func (.func 211) (List.toArray []) (List.toArray [pv (some (b8, 0)), pv (some (b12, 0))])) (fun H15 =>
 ldV H15 (b10, 0) fun x16 =>
 ldT H15 Qb.c (b1, 0) fun x18 =>
 callU Tryz.prog C x16 [.agg (Qb.c x18).toArray] H15 (fun v H20 => v = .tuple #[] ∧
 QI C (some (b8, 0)) (fun r21 H22 =>
 K r21 H22) H20)) H14) H13) H11) H9) H6)) H2) H
theorem Qoj (C p_v K H) (h : Qlr C p_v K H) : Qje C p_v K H := by
 refine Ye Tryz.func169 rfl Tryz.ntmps169 [(0, .agg (Qb.c p_v).toArray)] (Zo (GL.box (v := .agg (Qb.c p_v).toArray) (cs := Qb.c p_v) h trivial rfl rfl rfl ?_))
 intro b1 H2 h
 refine Za (GL.nil (GC.seq (Zo ?_)))
 obtain ⟨x3, v4, h⟩ := h
 refine Zv (OV.loadT rfl rfl rfl v4) (Zc h Qkb ?_)
 rintro _ H6 ⟨r5, rfl, h⟩
 refine Zi (.bool ((r5 : Int) != 0)) (GL.nil (Yd h (fun u7 h => ?_) fun u7 h => ?_))
 refine Zo (Za (GL.nil ?_))
 exact Y1 I3 ⟨[], rfl, h⟩
 refine GC.skip (Zo (GL.allocB (T := 85) (e := 5) h trivial rfl rfl rfl ?_))
 intro b8 H9 h
 refine GL.nil (Zo (GL.alloc (cs := [.nilFunc]) h trivial rfl rfl rfl ?_))
 intro b10 H11 h
 refine GL.nil (Zo (Zv (OV.makeFunc (vs := []) (us := [pv (some (b8, 0)), pv (some (b10, 0))]) rfl rfl) (GL.alloc (cs := [.nilFunc]) h trivial rfl rfl rfl ?_)))
 intro b12 H13 h
 refine GL.store (p := (b12, 0)) (v := .func (.func 210) (List.toArray []) (List.toArray [pv (some (b8, 0)), pv (some (b10, 0))])) h trivial rfl rfl rfl rfl ?_
 intro H14 h
 refine GL.nil (Zo (Zv (OV.makeFunc (vs := []) (us := [pv (some (b8, 0)), pv (some (b12, 0))]) rfl rfl) (GL.store (p := (b10, 0)) (v := .func (.func 211) (List.toArray []) (List.toArray [pv (some (b8, 0)), pv (some (b12, 0))])) h trivial rfl rfl rfl rfl ?_)))
 intro H15 h
 refine GL.nil (Zo (Yl h fun x16 h => ?_))
 obtain ⟨x18, v19, h⟩ := h
 refine Zv (OV.loadT rfl rfl rfl v19) (GL.callU (xv := x16) (vs := [.agg (Qb.c x18).toArray]) h trivial rfl rfl rfl ?_)
 rintro _ H20 ⟨rfl, h⟩
 refine GL.nil (Zo (Zc h Qcc ?_))
 rintro _ H22 ⟨r21, rfl, h⟩
 refine Za (GL.nil ?_)
 exact Y1 I3 ⟨r21, rfl, h⟩
def QgG (C : Ctx) (p_w : Option (Nat × Nat)) (p_e : Qa) (K : Heap → Prop) (H : Heap) : Prop :=
 nw (Qa.c p_e) (fun b1 H2 =>
 ldS H2 ((b1, 0).1, (b1, 0).2 + 3) fun x3 =>
 QeX C x3 (fun r5 H6 =>
 ift r5
 (dr H6 fun Hs8 =>
 nck p_w fun p10 =>
 ldS Hs8 ((b1, 0).1, (b1, 0).2 + 3) fun x12 =>
 Qm C (some (p10.1, p10.2 + 0)) x12 (fun r15 r16 H17 =>
 Heap.le Hs8 H17 ∧
 ldL H17 ((b1, 0).1, (b1, 0).2 + 8) fun x18 =>
 QE C p_w x18 (.func (.func 93) (List.toArray [pv p_w]) (List.toArray []) : Value) (fun H20 =>
 K H20) H17) H6)
 (ldL H6 ((b1, 0).1, (b1, 0).2 + 8) fun x21 =>
 ift (((Sl.len x21 : Int) : Int) == 1)
 (ldS H6 ((b1, 0).1, (b1, 0).2 + 3) fun x24 =>
 nw ([sv [40], sv x24, sv [32]]) (fun b26 H27 =>
 QG C p_w (Sl.of (some (b26, 0)) 3 3) (fun H28 =>
 ldL H28 ((b1, 0).1, (b1, 0).2 + 8) fun x29 =>
 ixa x29 0 fun p31 =>
 ldT H28 Qa.c (p31.1, p31.2 + (0 : Int).toNat * 9) fun x36 =>
 Q4 C p_w x36 (fun H38 =>
 nck p_w fun p39 =>
 Qo C (some (p39.1, p39.2 + 0)) 41 (fun r41 H42 =>
 K H42) H38) H28) H27) H6)
 (nck p_w fun p43 =>
 Qo C (some (p43.1, p43.2 + 0)) 40 (fun r45 H46 =>
 ldL H46 ((b1, 0).1, (b1, 0).2 + 8) fun x47 =>
 ldS H46 ((b1, 0).1, (b1, 0).2 + 3) fun x49 =>
 catOk ([32] : Str) x49 ∧
 catOk (([32] : Str) ++ x49) ([32] : Str) ∧
 Qa0 C p_w x47 ((([32] : Str) ++ x49) ++ ([32] : Str)) (.func (.func 93) (List.toArray [pv p_w]) (List.toArray []) : Value) (fun H53 =>
 nck p_w fun p54 =>
 Qo C (some (p54.1, p54.2 + 0)) 41 (fun r56 H57 =>
 K H57) H53) H46) H6))) H2) H
theorem QkE (C p_w p_e K H) (h : QgG C p_w p_e K H) : QeZ C p_w p_e K H := by
 refine Ye Tryz.func170 rfl Tryz.ntmps170 [(0, pv p_w), (1, .agg (Qa.c p_e).toArray)] (Zo (GL.box (v := .agg (Qa.c p_e).toArray) (cs := Qa.c p_e) h trivial rfl rfl rfl ?_))
 intro b1 H2 h
 refine GL.nil (GC.block (Zo (Zf (Yl h fun x3 h => ?_))))
 refine Zc h Qiz ?_
 rintro _ H6 ⟨r5, rfl, h⟩
 refine Za (GL.nil (Yd h (fun u7 h => ?_) fun u7 h => ?_))
 refine GC.seq ?_
 obtain ⟨Hs8, hle9, h⟩ := h
 refine GC.any (Hs := Hs8) (by kernel_rfl) hle9 (Zp 0 rfl Ym ?_)
 obtain ⟨p10, hp11, h⟩ := h
 refine Zp 1 rfl (OV.nilCheck (q := p_w) rfl hp11) (Zp 2 rfl Yf (Zp 3 rfl Yf ?_))
 obtain ⟨x12, v13, h⟩ := h
 refine Zp 4 rfl (Yo v13) (GA.eff 5 rfl (by kernel_rfl) (Zc h Qn ?_))
 rintro _ H17 ⟨r15, r16, rfl, h⟩
 obtain ⟨hle14, h⟩ := h
 refine GA.back hle14 (GA.done (by kernel_rfl) (GL.nil (GC.region (Zm (Zf (Yl h fun x18 h => ?_))))))
 refine Zm (Zv (OV.makeFunc (vs := [pv p_w]) (us := []) rfl rfl) (Zc h QZ ?_))
 rintro _ H20 ⟨rfl, h⟩
 exact GL.ends (fun _ _ hf hs => QC rfl hf hs ⟨rfl, h⟩)
 refine Zo (Zf (Yl h fun x21 h => ?_))
 refine Zq (Zi (.bool (((Sl.len x21 : Int) : Int) == 1)) (Za (GL.nil (Yd h (fun u23 h => ?_) fun u23 h => ?_))))
 refine Zo (Zm (Zf (Yl h fun x24 h => ?_)))
 refine GL.buildSlice (cs := [sv [40], sv x24, sv [32]]) h trivial rfl (vs := [(0, sv [40]), (1, sv x24), (2, sv [32])]) rfl ⟨9, fun _ => by kernel_rfl⟩ ?_
 intro b26 H27 h
 refine Zc h QT ?_
 rintro _ H28 ⟨rfl, h⟩
 refine GL.nil (Zo (Zm (Zf (Yl h fun x29 h => ?_))))
 refine Yx h fun p31 h => ?_
 obtain ⟨x36, v37, h⟩ := h
 refine Zv (OV.loadT rfl rfl rfl v37) (Zc h Q0 ?_)
 rintro _ H38 ⟨rfl, h⟩
 refine GL.nil (GC.region (Zm ?_))
 obtain ⟨p39, hp40, h⟩ := h
 refine Zv (OV.nilCheck (q := p_w) rfl hp40) (Zf (Zc h Qq ?_))
 rintro _ H42 ⟨r41, rfl, h⟩
 exact GL.ends (fun _ _ hf hs => QC rfl hf hs ⟨rfl, h⟩)
 refine Zo (Zm ?_)
 obtain ⟨p43, hp44, h⟩ := h
 refine Zv (OV.nilCheck (q := p_w) rfl hp44) (Zf (Zc h Qq ?_))
 rintro _ H46 ⟨r45, rfl, h⟩
 refine GL.nil (Zo (Zm (Zf (Yl h fun x47 h => ?_))))
 refine Zf (Yl h fun x49 h => ?_)
 obtain ⟨hl51, h⟩ := h
 refine Zv (OV.cat (a := ([32] : Str)) (b := x49) rfl rfl hl51) ?_
 obtain ⟨hl52, h⟩ := h
 refine Zv (OV.cat (a := (([32] : Str) ++ x49)) (b := ([32] : Str)) rfl rfl hl52) (Zm (Zv (OV.makeFunc (vs := [pv p_w]) (us := []) rfl rfl) (Zc h QfI ?_)))
 rintro _ H53 ⟨rfl, h⟩
 refine GL.nil (GC.region (Zm ?_))
 obtain ⟨p54, hp55, h⟩ := h
 refine Zv (OV.nilCheck (q := p_w) rfl hp55) (Zf (Zc h Qq ?_))
 rintro _ H57 ⟨r56, rfl, h⟩
 exact GL.ends (fun _ _ hf hs => QC rfl hf hs ⟨rfl, h⟩)
def Qga (C : Ctx) (p_w : Option (Nat × Nat)) (p_e : Qa) (K : Heap → Prop) (H : Heap) : Prop :=
 nw (Qa.c p_e) (fun b1 H2 =>
 ldL H2 ((b1, 0).1, (b1, 0).2 + 8) fun x3 =>
 ixa x3 0 fun p5 =>
 ldT H2 Qa.c (p5.1, p5.2 + (0 : Int).toNat * 9) fun x10 =>
 nw (Qa.c Qa.zero) (fun b12 H13 =>
 stT (b12, 0) (Qa.c x10) (fun H14 =>
 jn (α := Unit) (fun x16 H17 =>
 ldS H17 ((b1, 0).1, (b1, 0).2 + 3) fun x51 =>
 nw ([sv [46], sv x51]) (fun b53 H54 =>
 QG C p_w (Sl.of (some (b53, 0)) 2 2) (fun H55 =>
 K H55) H54) H17)
 (fun J15 => ldI H14 .u8 ((b12, 0).1, (b12, 0).2 + 0) fun x19 =>
 jn (α := Bool) (fun b21 H27 =>
 jn (α := Bool) (fun b28 H43 =>
 ift b28
 (ldL H43 ((b1, 0).1, (b1, 0).2 + 8) fun x45 =>
 QE C p_w x45 (.func (.func 93) (List.toArray [pv p_w]) (List.toArray []) : Value) (fun H47 =>
 J15 () H47) H43)
 (ldT H43 Qa.c (b12, 0) fun x48 =>
 Q4 C p_w x48 (fun H50 =>
 J15 () H50) H43))
 (fun J29 => ift b21
 (J29 true H27)
 (ldI H27 .u8 ((b12, 0).1, (b12, 0).2 + 0) fun x32 =>
 jn (α := Bool) (fun b34 H42 =>
 J29 b34 H42)
 (fun J35 => ift ((x32 : Int) == 6)
 (ldS H27 ((b12, 0).1, (b12, 0).2 + 3) fun x38 =>
 QeX C x38 (fun r40 H41 =>
 J35 r40 H41) H27)
 (J35 false H27)))))
 (fun J22 => ift ((x19 : Int) == 1)
 (J22 true H14)
 (ldI H14 .u8 ((b12, 0).1, (b12, 0).2 + 0) fun x25 =>
 J22 ((x25 : Int) == 5) H14)))) H13) H2) H
theorem QjS (C p_w p_e K H) (h : Qga C p_w p_e K H) : Qes C p_w p_e K H := by
 refine Ye Tryz.func171 rfl Tryz.ntmps171 [(0, pv p_w), (1, .agg (Qa.c p_e).toArray)] (Zo (GL.box (v := .agg (Qa.c p_e).toArray) (cs := Qa.c p_e) h trivial rfl rfl rfl ?_))
 intro b1 H2 h
 refine GL.nil (Zo (Zf (Yl h fun x3 h => ?_)))
 refine Yx h fun p5 h => ?_
 obtain ⟨x10, v11, h⟩ := h
 refine Zv (OV.loadT rfl rfl rfl v11) (GL.alloc (cs := Qa.c Qa.zero) h trivial rfl rfl rfl ?_)
 intro b12 H13 h
 refine GL.storeT (p := (b12, 0)) (vs := Qa.c x10) h trivial rfl rfl rfl rfl ?_
 intro H14 h
 refine GL.nil ?_
 obtain ⟨J15, h, hR18⟩ := h
 refine GC.join (α := Unit) J15 (fun _ => [(0, pv p_w), (3, pv (some (b1, 0)))]) ?_ ?_
 refine Zo (Zf (Yl h fun x19 h => ?_))
 refine Zi (.bool ((x19 : Int) == 1)) (Zm ?_)
 obtain ⟨J22, h, hR23⟩ := h
 refine GL.cut (α := Bool) 4 J22 (fun b21 => [(16, .bool b21), (0, pv p_w), (3, pv (some (b1, 0))), (4, pv (some (b12, 0)))]) ?_ ?_
 rcases h.em with ⟨u24, h⟩ | ⟨u24, h⟩
 refine Zk u24 (Zk u24 (Zk u24 (Zt u24 ?_)))
 exact Yj I3 true h
 refine Zu u24 Yf ?_
 obtain ⟨x25, v26, h⟩ := h
 refine Zu u24 (Yo v26) (Zu u24 (OV.ibin (v := .bool ((x25 : Int) == 5)) rfl rfl rfl) (Zn u24 ?_))
 exact Yj I3 ((x25 : Int) == 5) h
 intro b21 H27 h
 replace h := hR23 b21 H27 h
 refine Zm ?_
 obtain ⟨J29, h, hR30⟩ := h
 refine GL.cut (α := Bool) 9 J29 (fun b28 => [(26, .bool b28), (0, pv p_w), (3, pv (some (b1, 0))), (4, pv (some (b12, 0)))]) ?_ ?_
 rcases h.em with ⟨u31, h⟩ | ⟨u31, h⟩
 refine Zk u31 (Zk u31 (Zk u31 (Zk u31 (GL.skip ⟨_, rfl, .inr rfl⟩ rfl (GL.skip ⟨_, rfl, .inr rfl⟩ rfl (GL.skip ⟨_, rfl, .inr rfl⟩ rfl (Zk u31 (Zt u31 ?_))))))))
 exact Yj I3 true h
 refine Zu u31 Yf ?_
 obtain ⟨x32, v33, h⟩ := h
 refine Zu u31 (Yo v33) (Zu u31 (OV.ibin (v := .bool ((x32 : Int) == 6)) rfl rfl rfl) (Zu u31 Ym ?_))
 obtain ⟨J35, h, hR36⟩ := h
 refine GL.cut (α := Bool) 4 J35 (fun b34 => [(25, .bool b34), (0, pv p_w), (3, pv (some (b1, 0))), (4, pv (some (b12, 0))), (17, .bool b21)]) ?_ ?_
 rcases h.em with ⟨u37, h⟩ | ⟨u37, h⟩
 refine Zu u37 Yf ?_
 obtain ⟨x38, v39, h⟩ := h
 refine Zu u37 (Yo v39) (GL.call h (Yt u37) rfl Qiz (vs := [sv x38]) rfl ?_)
 rintro _ H41 ⟨r40, rfl, h⟩
 refine Zu u31 (OV.pickT rfl u37 rfl) ?_
 exact Yj I3 r40 h
 refine Zk u37 (Zk u37 (Zk u37 (Zu u31 (OV.pickF rfl u37 rfl) ?_)))
 exact Yj I3 false h
 intro b34 H42 h
 replace h := hR36 b34 H42 h
 refine Zn u31 ?_
 exact Yj I3 b34 h
 intro b28 H43 h
 replace h := hR30 b28 H43 h
 refine GL.nil (Yd h (fun u44 h => ?_) fun u44 h => ?_)
 refine GC.region (Zm (Zf (Yl h fun x45 h => ?_)))
 refine Zm (Zv (OV.makeFunc (vs := [pv p_w]) (us := []) rfl rfl) (Zc h QZ ?_))
 rintro _ H47 ⟨rfl, h⟩
 exact Yj I3 () h
 refine GC.region (Zm ?_)
 obtain ⟨x48, v49, h⟩ := h
 refine Zv (OV.loadT rfl rfl rfl v49) (Zc h Q0 ?_)
 rintro _ H50 ⟨rfl, h⟩
 exact Yj I3 () h
 intro x16 H17 h
 replace h := hR18 x16 H17 h
 refine GC.region (Zm (Zf (Yl h fun x51 h => ?_)))
 refine GL.buildSlice (cs := [sv [46], sv x51]) h trivial rfl (vs := [(0, sv [46]), (1, sv x51)]) rfl ⟨9, fun _ => by kernel_rfl⟩ ?_
 intro b53 H54 h
 refine Zc h QT ?_
 rintro _ H55 ⟨rfl, h⟩
 exact GL.ends (fun _ _ hf hs => QC rfl hf hs ⟨rfl, h⟩)
def QiE (C : Ctx) (p_a : Sl) (p_b : Sl) (K : Bool → Heap → Prop) (H : Heap) : Prop :=
 ift (((Sl.len p_a : Int) : Int) != (Sl.len p_b : Int))
 (K false H)
 (lp (α := Int) 0 H (fun x2 J3 H4 =>
 ift (decide ((x2 : Int) < (Sl.len p_a : Int)))
 (dr H4 fun Hs6 =>
 ixa p_a x2 fun p8 =>
 ldT Hs6 Qb.c (p8.1, p8.2 + (x2 : Int).toNat * 4) fun x13 =>
 ixa p_b x2 fun p15 =>
 ldT Hs6 Qb.c (p15.1, p15.2 + (x2 : Int).toNat * 4) fun x20 =>
 QbL C x13 x20 (fun r23 H24 =>
 Heap.le Hs6 H24 ∧
 ift (!r23)
 (K false H24)
 (J3 (w .i64 (x2 + 1)) H24)) H4)
 (K true H4)))
theorem Ql8 (C p_a p_b K H) (h : QiE C p_a p_b K H) : Qgq C p_a p_b K H := by
 refine Ye Tryz.func172 rfl Tryz.ntmps172 [(0, slv p_a), (1, slv p_b)] (Zo (Za (GL.nil (GC.seq (Zo (Zm (Zq (Zm (Zq (Zi (.bool (((Sl.len p_a : Int) : Int) != (Sl.len p_b : Int))) (GL.nil (Yd h (fun u1 h => ?_) fun u1 h => ?_))))))))))))
 refine Zo (Za (GL.nil ?_))
 exact Y1 I3 ⟨false, rfl, h⟩
 refine GC.skip (GC.seq (Zo (Za (GL.nil (GC.block (Yp h (fun x2 => [(5, .int .i64 x2), (0, slv p_a), (1, slv p_b)]) ?_))))))
 intro x2 H4 J3 h
 refine GC.seq (Zo (Zm (Zm (Zq (Zi (.bool (decide ((x2 : Int) < (Sl.len p_a : Int)))) (GL.nil (Yd h (fun u5 h => ?_) fun u5 h => ?_)))))))
 refine GC.skip (GC.seq (GC.block (GC.seq ?_)))
 obtain ⟨Hs6, hle7, h⟩ := h
 refine GC.any (Hs := Hs6) (by kernel_rfl) hle7 (Zp 0 rfl Ym (Zp 1 rfl Ym ?_))
 obtain ⟨p8, ha9, hb10, u11, hd12, h⟩ := h
 refine Zp 2 rfl (OV.indexAddr rfl rfl rfl rfl ha9 hb10 u11 hd12) ?_
 obtain ⟨x13, v14, h⟩ := h
 refine Zp 3 rfl (OV.loadT rfl rfl rfl v14) (Zp 4 rfl Ym (Zp 5 rfl Ym ?_))
 obtain ⟨p15, ha16, hb17, u18, hd19, h⟩ := h
 refine Zp 6 rfl (OV.indexAddr rfl rfl rfl rfl ha16 hb17 u18 hd19) ?_
 obtain ⟨x20, v21, h⟩ := h
 refine Zp 7 rfl (OV.loadT rfl rfl rfl v21) (GA.eff 8 rfl (by kernel_rfl) (Zc h Qlc ?_))
 rintro _ H24 ⟨r23, rfl, h⟩
 obtain ⟨hle22, h⟩ := h
 refine GA.back hle22 (Zp 9 rfl (OV.not rfl) (GA.done (by kernel_rfl) (GL.nil (Yd h (fun u25 h => ?_) fun u25 h => ?_))))
 refine Zo (Za (GL.nil ?_))
 exact Y1 I3 ⟨false, rfl, h⟩
 refine GC.skip_to (fun _ _ h => h) (GC.region (Zm (Zi (.int .i64 (w .i64 (x2 + 1))) (Za ?_))))
 exact Yj I3 (w .i64 (x2 + 1)) h
 refine GC.exit_to (fun _ _ h => h) (Zo (Za (GL.nil ?_)))
 exact Y1 I3 ⟨true, rfl, h⟩
def QcX (C : Ctx) (p_s : Sl) (p_v : Str) (K : Int → Heap → Prop) (H : Heap) : Prop :=
 lp (α := Int) 0 H (fun x1 J2 H3 =>
 ift (decide ((x1 : Int) < (Sl.len p_s : Int)))
 (ixa p_s x1 fun p5 =>
 ldS H3 (p5.1, p5.2 + (x1 : Int).toNat * 1) fun x10 =>
 ift (p_v == x10)
 (K x1 H3)
 (J2 (w .i64 (x1 + 1)) H3))
 (K (-1) H3))
theorem QfT (C p_s p_v K H) (h : QcX C p_s p_v K H) : Qdg C p_s p_v K H := by
 refine Ye Tryz.func173 rfl Tryz.ntmps173 [(0, slv p_s), (1, sv p_v)] (Zo (Za (GL.nil (GC.seq (Zo (Zm (Zq (Zm (GL.nil (GC.block (Yp h (fun x1 => [(8, .int .i64 x1), (0, slv p_s), (1, sv p_v), (7, .int .i64 (Sl.len p_s : Int))]) ?_)))))))))))
 intro x1 H3 J2 h
 refine Zo (Zi (.bool (decide ((x1 : Int) < (Sl.len p_s : Int)))) (GL.nil (GC.seq (Yd h (fun u4 h => ?_) fun u4 h => ?_))))
 refine GC.skip (GC.seq (GC.block (Zo (Zm (Za (GL.nil (Zo (Zm (Zm (Zm (Yx h fun p5 h => ?_)))))))))))
 refine Yl h fun x10 h => ?_
 refine Zv (OV.sbin (a := p_v) (b := x10) (v := .bool (p_v == x10)) rfl rfl rfl) (GL.nil (Yd h (fun u12 h => ?_) fun u12 h => ?_))
 refine Zo (Zm (Za (GL.nil ?_)))
 exact Y1 I3 ⟨x1, rfl, h⟩
 refine GC.skip_to (fun _ _ h => h) (GC.region (Zi (.int .i64 (w .i64 (x1 + 1))) (Zm ?_)))
 exact Yj I3 (w .i64 (x1 + 1)) h
 refine GC.exit_to (fun _ _ h => h) (Zo (Za (GL.nil ?_)))
 exact Y1 I3 ⟨(-1), rfl, h⟩
def QgE (C : Ctx) (p_w : Option (Nat × Nat)) (p_l : Sl) (p_between : Str) (p_write : Value) (K : Heap → Prop) (H : Heap) : Prop :=
 lp (α := Int) 0 H (fun x1 J2 H3 =>
 ift (decide ((x1 : Int) < (Sl.len p_l : Int)))
 (ixa p_l x1 fun p5 =>
 ldS H3 (p5.1, p5.2 + (x1 : Int).toNat * 1) fun x10 =>
 jn (α := Unit) (fun x13 H14 =>
 callU Tryz.prog C p_write [sv x10] H14 (fun v H22 => v = .tuple #[] ∧
 J2 (w .i64 (x1 + 1)) H22))
 (fun J12 => ift (decide ((x1 : Int) > 0))
 (nck p_w fun p17 =>
 Qm C (some (p17.1, p17.2 + 0)) p_between (fun r19 r20 H21 =>
 J12 () H21) H3)
 (J12 () H3)))
 (K H3))
theorem QkC (C p_w p_l p_between p_write K H) (h : QgE C p_w p_l p_between p_write K H) : QgS C p_w p_l p_between p_write K H := by
 refine Ye Tryz.func174 rfl Tryz.ntmps174 [(0, pv p_w), (1, slv p_l), (2, sv p_between), (3, p_write)] (Zo (Zm (Zq (Zm (GL.nil (GC.block (Yp h (fun x1 => [(12, .int .i64 x1), (0, pv p_w), (2, sv p_between), (3, p_write), (10, slv p_l), (11, .int .i64 (Sl.len p_l : Int))]) ?_)))))))
 intro x1 H3 J2 h
 refine Zo (Zi (.bool (decide ((x1 : Int) < (Sl.len p_l : Int)))) (GL.nil (GC.seq (Yd h (fun u4 h => ?_) fun u4 h => ?_))))
 refine GC.skip (GC.seq (GC.block (Zo (Zm (Yx h fun p5 h => ?_)))))
 refine Yl h fun x10 h => ?_
 refine Za (Za (GL.nil ?_))
 obtain ⟨J12, h, hR15⟩ := h
 refine GC.join (α := Unit) J12 (fun _ => [(0, pv p_w), (2, sv p_between), (3, p_write), (9, sv x10), (10, slv p_l), (11, .int .i64 (Sl.len p_l : Int)), (12, .int .i64 x1)]) ?_ ?_
 refine Zo (Zm (Zi (.bool (decide ((x1 : Int) > 0))) (GL.nil (Yd h (fun u16 h => ?_) fun u16 h => ?_))))
 refine GC.region (Zm ?_)
 obtain ⟨p17, hp18, h⟩ := h
 refine Zv (OV.nilCheck (q := p_w) rfl hp18) (Zf (Zm (Zc h Qn ?_)))
 rintro _ H21 ⟨r19, r20, rfl, h⟩
 exact Yj I3 () h
 exact Yk I3 () h
 intro x13 H14 h
 replace h := hR15 x13 H14 h
 refine GC.region (Zm (Zm (GL.callU (xv := p_write) (vs := [sv x10]) h trivial rfl rfl rfl ?_)))
 rintro _ H22 ⟨rfl, h⟩
 refine GL.nil_to (fun _ _ h => h) (GC.region (Zi (.int .i64 (w .i64 (x1 + 1))) (Zm ?_)))
 exact Yj I3 (w .i64 (x1 + 1)) h
 exact GC.exit_ends (fun _ _ hf hs => QC rfl hf hs ⟨rfl, h⟩)
def Qep (C : Ctx) (p_w : Option (Nat × Nat)) (p_l : Sl) (p_between : Str) (p_write : Value) (K : Heap → Prop) (H : Heap) : Prop :=
 lp (α := Int) 0 H (fun x1 J2 H3 =>
 ift (decide ((x1 : Int) < (Sl.len p_l : Int)))
 (ixa p_l x1 fun p5 =>
 ldT H3 Qc.c (p5.1, p5.2 + (x1 : Int).toNat * 3) fun x10 =>
 nw (Qc.c Qc.zero) (fun b12 H13 =>
 stT (b12, 0) (Qc.c x10) (fun H14 =>
 jn (α := Unit) (fun x16 H17 =>
 ldT H17 Qc.c (b12, 0) fun x25 =>
 callU Tryz.prog C p_write [.agg (Qc.c x25).toArray] H17 (fun v H27 => v = .tuple #[] ∧
 J2 (w .i64 (x1 + 1)) H27))
 (fun J15 => ift (decide ((x1 : Int) > 0))
 (nck p_w fun p20 =>
 Qm C (some (p20.1, p20.2 + 0)) p_between (fun r22 r23 H24 =>
 J15 () H24) H14)
 (J15 () H14))) H13) H3)
 (K H3))
theorem Qhh (C p_w p_l p_between p_write K H) (h : Qep C p_w p_l p_between p_write K H) : Qcu C p_w p_l p_between p_write K H := by
 refine Ye Tryz.func175 rfl Tryz.ntmps175 [(0, pv p_w), (1, slv p_l), (2, sv p_between), (3, p_write)] (Zo (Zm (Zq (Zm (GL.nil (GC.block (Yp h (fun x1 => [(12, .int .i64 x1), (0, pv p_w), (2, sv p_between), (3, p_write), (10, slv p_l), (11, .int .i64 (Sl.len p_l : Int))]) ?_)))))))
 intro x1 H3 J2 h
 refine Zo (Zi (.bool (decide ((x1 : Int) < (Sl.len p_l : Int)))) (GL.nil (GC.seq (Yd h (fun u4 h => ?_) fun u4 h => ?_))))
 refine GC.skip (GC.seq (GC.block (Zo (Zm (Yx h fun p5 h => ?_)))))
 obtain ⟨x10, v11, h⟩ := h
 refine Zv (OV.loadT rfl rfl rfl v11) (GL.alloc (cs := Qc.c Qc.zero) h trivial rfl rfl rfl ?_)
 intro b12 H13 h
 refine Za (GL.storeT (p := (b12, 0)) (vs := Qc.c x10) h trivial rfl rfl rfl rfl ?_)
 intro H14 h
 refine GL.nil ?_
 obtain ⟨J15, h, hR18⟩ := h
 refine GC.join (α := Unit) J15 (fun _ => [(0, pv p_w), (2, sv p_between), (3, p_write), (9, pv (some (b12, 0))), (10, slv p_l), (11, .int .i64 (Sl.len p_l : Int)), (12, .int .i64 x1)]) ?_ ?_
 refine Zo (Zm (Zi (.bool (decide ((x1 : Int) > 0))) (GL.nil (Yd h (fun u19 h => ?_) fun u19 h => ?_))))
 refine GC.region (Zm ?_)
 obtain ⟨p20, hp21, h⟩ := h
 refine Zv (OV.nilCheck (q := p_w) rfl hp21) (Zf (Zm (Zc h Qn ?_)))
 rintro _ H24 ⟨r22, r23, rfl, h⟩
 exact Yj I3 () h
 exact Yk I3 () h
 intro x16 H17 h
 replace h := hR18 x16 H17 h
 refine GC.region (Zm ?_)
 obtain ⟨x25, v26, h⟩ := h
 refine Zv (OV.loadT rfl rfl rfl v26) (GL.callU (xv := p_write) (vs := [.agg (Qc.c x25).toArray]) h trivial rfl rfl rfl ?_)
 rintro _ H27 ⟨rfl, h⟩
 refine GL.nil_to (fun _ _ h => h) (GC.region (Zi (.int .i64 (w .i64 (x1 + 1))) (Zm ?_)))
 exact Yj I3 (w .i64 (x1 + 1)) h
 exact GC.exit_ends (fun _ _ hf hs => QC rfl hf hs ⟨rfl, h⟩)
def Qg8 (C : Ctx) (p_w : Option (Nat × Nat)) (p_t : Qf) (K : Heap → Prop) (H : Heap) : Prop :=
 nw (Qf.c p_t) (fun b1 H2 =>
 jn (α := Unit) (fun x4 H5 =>
 ldS H5 ((b1, 0).1, (b1, 0).2 + 0) fun x20 =>
 jn (α := Bool) (fun b22 H28 =>
 ift b22
 (ldL H28 ((b1, 0).1, (b1, 0).2 + 1) fun x30 =>
 Qcr C p_w x30 (.func (.func 176) (List.toArray [pv p_w]) (List.toArray []) : Value) (fun H32 =>
 K H32) H28)
 (K H28))
 (fun J23 => ift (x20 == ([116, 117, 112, 108, 101] : Str))
 (J23 true H5)
 (ldL H5 ((b1, 0).1, (b1, 0).2 + 1) fun x26 =>
 J23 (decide (((Sl.len x26 : Int) : Int) > 0)) H5)))
 (fun J3 => ldS H2 ((b1, 0).1, (b1, 0).2 + 0) fun x7 =>
 ift (!(x7 == ([116, 117, 112, 108, 101] : Str)))
 (dr H2 fun Hs10 =>
 nck p_w fun p12 =>
 ldS Hs10 ((b1, 0).1, (b1, 0).2 + 0) fun x14 =>
 Qm C (some (p12.1, p12.2 + 0)) x14 (fun r17 r18 H19 =>
 Heap.le Hs10 H19 ∧
 J3 () H19) H2)
 (J3 () H2))) H
theorem QkX (C p_w p_t K H) (h : Qg8 C p_w p_t K H) : Qft C p_w p_t K H := by
 refine Ye Tryz.func176 rfl Tryz.ntmps176 [(0, pv p_w), (1, .agg (Qf.c p_t).toArray)] (Zo (GL.box (v := .agg (Qf.c p_t).toArray) (cs := Qf.c p_t) h trivial rfl rfl rfl ?_))
 intro b1 H2 h
 refine GL.nil ?_
 obtain ⟨J3, h, hR6⟩ := h
 refine GC.join (α := Unit) J3 (fun _ => [(0, pv p_w), (3, pv (some (b1, 0)))]) ?_ ?_
 refine Zo (Zf (Yl h fun x7 h => ?_))
 refine Zv (OV.sbin (a := x7) (b := ([116, 117, 112, 108, 101] : Str)) (v := .bool (!(x7 == ([116, 117, 112, 108, 101] : Str)))) rfl rfl rfl) (GL.nil (Yd h (fun u9 h => ?_) fun u9 h => ?_))
 obtain ⟨Hs10, hle11, h⟩ := h
 refine GC.any (Hs := Hs10) (by kernel_rfl) hle11 (Zp 0 rfl Ym ?_)
 obtain ⟨p12, hp13, h⟩ := h
 refine Zp 1 rfl (OV.nilCheck (q := p_w) rfl hp13) (Zp 2 rfl Yf (Zp 3 rfl Yf ?_))
 obtain ⟨x14, v15, h⟩ := h
 refine Zp 4 rfl (Yo v15) (GA.eff 5 rfl (by kernel_rfl) (Zc h Qn ?_))
 rintro _ H19 ⟨r17, r18, rfl, h⟩
 obtain ⟨hle16, h⟩ := h
 refine GA.back hle16 (GA.done (by kernel_rfl) ?_)
 exact Yj I3 () h
 exact Yk I3 () h
 intro x4 H5 h
 replace h := hR6 x4 H5 h
 refine Zo (Zf (Yl h fun x20 h => ?_))
 refine Zv (OV.sbin (a := x20) (b := ([116, 117, 112, 108, 101] : Str)) (v := .bool (x20 == ([116, 117, 112, 108, 101] : Str))) rfl rfl rfl) (Zm ?_)
 obtain ⟨J23, h, hR24⟩ := h
 refine GL.cut (α := Bool) 5 J23 (fun b22 => [(21, .bool b22), (0, pv p_w), (3, pv (some (b1, 0)))]) ?_ ?_
 rcases h.em with ⟨u25, h⟩ | ⟨u25, h⟩
 refine Zk u25 (Zk u25 (Zk u25 (Zk u25 (Zt u25 ?_))))
 exact Yj I3 true h
 refine Zu u25 Yf ?_
 obtain ⟨x26, v27, h⟩ := h
 refine Zu u25 (Yo v27) (Zu u25 (OV.lenSl rfl rfl) (Zu u25 (OV.ibin (v := .bool (decide (((Sl.len x26 : Int) : Int) > 0))) rfl rfl rfl) (Zn u25 ?_)))
 exact Yj I3 (decide (((Sl.len x26 : Int) : Int) > 0)) h
 intro b22 H28 h
 replace h := hR24 b22 H28 h
 refine GL.nil (Yd h (fun u29 h => ?_) fun u29 h => ?_)
 refine GC.region (Zm (Zf (Yl h fun x30 h => ?_)))
 refine Zm (Zv (OV.makeFunc (vs := [pv p_w]) (us := []) rfl rfl) (Zc h Qhr ?_))
 rintro _ H32 ⟨rfl, h⟩
 exact GL.ends (fun _ _ hf hs => QC rfl hf hs ⟨rfl, h⟩)
 exact GC.ends (fun _ _ hf hs => QC rfl hf hs ⟨rfl, h⟩)
def QdJ (C : Ctx) (p_w : Option (Nat × Nat)) (p_l : Sl) (p_between : Str) (p_write : Value) (K : Heap → Prop) (H : Heap) : Prop :=
 lp (α := Int) 0 H (fun x1 J2 H3 =>
 ift (decide ((x1 : Int) < (Sl.len p_l : Int)))
 (ixa p_l x1 fun p5 =>
 ldT H3 Qa.c (p5.1, p5.2 + (x1 : Int).toNat * 9) fun x10 =>
 nw (Qa.c Qa.zero) (fun b12 H13 =>
 stT (b12, 0) (Qa.c x10) (fun H14 =>
 jn (α := Unit) (fun x16 H17 =>
 ldT H17 Qa.c (b12, 0) fun x25 =>
 callU Tryz.prog C p_write [.agg (Qa.c x25).toArray] H17 (fun v H27 => v = .tuple #[] ∧
 J2 (w .i64 (x1 + 1)) H27))
 (fun J15 => ift (decide ((x1 : Int) > 0))
 (nck p_w fun p20 =>
 Qm C (some (p20.1, p20.2 + 0)) p_between (fun r22 r23 H24 =>
 J15 () H24) H14)
 (J15 () H14))) H13) H3)
 (K H3))
theorem QfA (C p_w p_l p_between p_write K H) (h : QdJ C p_w p_l p_between p_write K H) : Qa0 C p_w p_l p_between p_write K H := by
 refine Ye Tryz.func177 rfl Tryz.ntmps177 [(0, pv p_w), (1, slv p_l), (2, sv p_between), (3, p_write)] (Zo (Zm (Zq (Zm (GL.nil (GC.block (Yp h (fun x1 => [(12, .int .i64 x1), (0, pv p_w), (2, sv p_between), (3, p_write), (10, slv p_l), (11, .int .i64 (Sl.len p_l : Int))]) ?_)))))))
 intro x1 H3 J2 h
 refine Zo (Zi (.bool (decide ((x1 : Int) < (Sl.len p_l : Int)))) (GL.nil (GC.seq (Yd h (fun u4 h => ?_) fun u4 h => ?_))))
 refine GC.skip (GC.seq (GC.block (Zo (Zm (Yx h fun p5 h => ?_)))))
 obtain ⟨x10, v11, h⟩ := h
 refine Zv (OV.loadT rfl rfl rfl v11) (GL.alloc (cs := Qa.c Qa.zero) h trivial rfl rfl rfl ?_)
 intro b12 H13 h
 refine Za (GL.storeT (p := (b12, 0)) (vs := Qa.c x10) h trivial rfl rfl rfl rfl ?_)
 intro H14 h
 refine GL.nil ?_
 obtain ⟨J15, h, hR18⟩ := h
 refine GC.join (α := Unit) J15 (fun _ => [(0, pv p_w), (2, sv p_between), (3, p_write), (9, pv (some (b12, 0))), (10, slv p_l), (11, .int .i64 (Sl.len p_l : Int)), (12, .int .i64 x1)]) ?_ ?_
 refine Zo (Zm (Zi (.bool (decide ((x1 : Int) > 0))) (GL.nil (Yd h (fun u19 h => ?_) fun u19 h => ?_))))
 refine GC.region (Zm ?_)
 obtain ⟨p20, hp21, h⟩ := h
 refine Zv (OV.nilCheck (q := p_w) rfl hp21) (Zf (Zm (Zc h Qn ?_)))
 rintro _ H24 ⟨r22, r23, rfl, h⟩
 exact Yj I3 () h
 exact Yk I3 () h
 intro x16 H17 h
 replace h := hR18 x16 H17 h
 refine GC.region (Zm ?_)
 obtain ⟨x25, v26, h⟩ := h
 refine Zv (OV.loadT rfl rfl rfl v26) (GL.callU (xv := p_write) (vs := [.agg (Qa.c x25).toArray]) h trivial rfl rfl rfl ?_)
 rintro _ H27 ⟨rfl, h⟩
 refine GL.nil_to (fun _ _ h => h) (GC.region (Zi (.int .i64 (w .i64 (x1 + 1))) (Zm ?_)))
 exact Yj I3 (w .i64 (x1 + 1)) h
 exact GC.exit_ends (fun _ _ hf hs => QC rfl hf hs ⟨rfl, h⟩)
def Qh2 (C : Ctx) (p_t : Qf) (K : Int → Heap → Prop) (H : Heap) : Prop :=
 nw (Qf.c p_t) (fun b1 H2 =>
 ldL H2 ((b1, 0).1, (b1, 0).2 + 1) fun x3 =>
 Q8 C x3 (.func (.func 181) (List.toArray []) (List.toArray []) : Value) (fun r5 H6 =>
 K (w .i64 (1 + r5)) H6) H2) H
theorem QlB (C p_t K H) (h : Qh2 C p_t K H) : QbB C p_t K H := by
 refine Ye Tryz.func181 rfl Tryz.ntmps181 [(0, .agg (Qf.c p_t).toArray)] (Zo (GL.box (v := .agg (Qf.c p_t).toArray) (cs := Qf.c p_t) h trivial rfl rfl rfl ?_))
 intro b1 H2 h
 refine Za (GL.nil (Zo (Zf (Yl h fun x3 h => ?_))))
 refine Zc h QhR ?_
 rintro _ H6 ⟨r5, rfl, h⟩
 refine Zi (.int .i64 (w .i64 (1 + r5))) (Za (GL.nil ?_))
 exact Y1 I3 ⟨(w .i64 (1 + r5)), rfl, h⟩
def Qa9 (C : Ctx) (p_s : Sl) (p_f : Value) (K : Int → Heap → Prop) (H : Heap) : Prop :=
 lp (α := Int) 0 H (fun x1 J2 H3 =>
 ift (decide ((x1 : Int) < (Sl.len p_s : Int)))
 (ixa p_s x1 fun p5 =>
 ldT H3 Ql.c (p5.1, p5.2 + (x1 : Int).toNat * 3) fun x10 =>
 callU Tryz.prog C p_f [.agg (Ql.c x10).toArray] H3 (fun v H13 => ∃ (r12 : Bool), v = .bool r12 ∧
 ift r12
 (K x1 H13)
 (J2 (w .i64 (x1 + 1)) H13)))
 (K (-1) H3))
theorem Qc8 (C p_s p_f K H) (h : Qa9 C p_s p_f K H) : Qbj C p_s p_f K H := by
 refine Ye Tryz.func183 rfl Tryz.ntmps183 [(0, slv p_s), (1, p_f)] (Zo (Za (GL.nil (GC.seq (Zo (Zm (Zq (Zm (GL.nil (GC.block (Yp h (fun x1 => [(8, .int .i64 x1), (0, slv p_s), (1, p_f), (7, .int .i64 (Sl.len p_s : Int))]) ?_)))))))))))
 intro x1 H3 J2 h
 refine Zo (Zi (.bool (decide ((x1 : Int) < (Sl.len p_s : Int)))) (GL.nil (GC.seq (Yd h (fun u4 h => ?_) fun u4 h => ?_))))
 refine GC.skip (GC.seq (GC.block (Zo (Zm (Za (GL.nil (Zo (Zm (Zm (Zm (Yx h fun p5 h => ?_)))))))))))
 obtain ⟨x10, v11, h⟩ := h
 refine Zv (OV.loadT rfl rfl rfl v11) (GL.callU (xv := p_f) (vs := [.agg (Ql.c x10).toArray]) h trivial rfl rfl rfl ?_)
 rintro _ H13 ⟨r12, rfl, h⟩
 refine GL.nil (Yd h (fun u14 h => ?_) fun u14 h => ?_)
 refine Zo (Zm (Za (GL.nil ?_)))
 exact Y1 I3 ⟨x1, rfl, h⟩
 refine GC.skip_to (fun _ _ h => h) (GC.region (Zi (.int .i64 (w .i64 (x1 + 1))) (Zm ?_)))
 exact Yj I3 (w .i64 (x1 + 1)) h
 refine GC.exit_to (fun _ _ h => h) (Zo (Za (GL.nil ?_)))
 exact Y1 I3 ⟨(-1), rfl, h⟩
def QaZ (C : Ctx) (p_s : Sl) (p_f : Value) (K : Int → Heap → Prop) (H : Heap) : Prop :=
 lp (α := Int) 0 H (fun x1 J2 H3 =>
 ift (decide ((x1 : Int) < (Sl.len p_s : Int)))
 (ixa p_s x1 fun p5 =>
 ldT H3 Qg.c (p5.1, p5.2 + (x1 : Int).toNat * 6) fun x10 =>
 callU Tryz.prog C p_f [.agg (Qg.c x10).toArray] H3 (fun v H13 => ∃ (r12 : Bool), v = .bool r12 ∧
 ift r12
 (K x1 H13)
 (J2 (w .i64 (x1 + 1)) H13)))
 (K (-1) H3))
theorem QcI (C p_s p_f K H) (h : QaZ C p_s p_f K H) : Qa3 C p_s p_f K H := by
 refine Ye Tryz.func184 rfl Tryz.ntmps184 [(0, slv p_s), (1, p_f)] (Zo (Za (GL.nil (GC.seq (Zo (Zm (Zq (Zm (GL.nil (GC.block (Yp h (fun x1 => [(8, .int .i64 x1), (0, slv p_s), (1, p_f), (7, .int .i64 (Sl.len p_s : Int))]) ?_)))))))))))
 intro x1 H3 J2 h
 refine Zo (Zi (.bool (decide ((x1 : Int) < (Sl.len p_s : Int)))) (GL.nil (GC.seq (Yd h (fun u4 h => ?_) fun u4 h => ?_))))
 refine GC.skip (GC.seq (GC.block (Zo (Zm (Za (GL.nil (Zo (Zm (Zm (Zm (Yx h fun p5 h => ?_)))))))))))
 obtain ⟨x10, v11, h⟩ := h
 refine Zv (OV.loadT rfl rfl rfl v11) (GL.callU (xv := p_f) (vs := [.agg (Qg.c x10).toArray]) h trivial rfl rfl rfl ?_)
 rintro _ H13 ⟨r12, rfl, h⟩
 refine GL.nil (Yd h (fun u14 h => ?_) fun u14 h => ?_)
 refine Zo (Zm (Za (GL.nil ?_)))
 exact Y1 I3 ⟨x1, rfl, h⟩
 refine GC.skip_to (fun _ _ h => h) (GC.region (Zi (.int .i64 (w .i64 (x1 + 1))) (Zm ?_)))
 exact Yj I3 (w .i64 (x1 + 1)) h
 refine GC.exit_to (fun _ _ h => h) (Zo (Za (GL.nil ?_)))
 exact Y1 I3 ⟨(-1), rfl, h⟩
def QbP (C : Ctx) (p_s : Sl) (p_f : Value) (K : Bool → Heap → Prop) (H : Heap) : Prop :=
 Qce C p_s p_f (fun r1 H2 =>
 K (decide ((r1 : Int) ≥ 0)) H2) H
theorem Qec (C p_s p_f K H) (h : QbP C p_s p_f K H) : QbR C p_s p_f K H := by
 refine Ye Tryz.func185 rfl Tryz.ntmps185 [(0, slv p_s), (1, p_f)] (Zo (Za (GL.nil (Zo (Zm (Zm (Zc h Qe2 ?_)))))))
 rintro _ H2 ⟨r1, rfl, h⟩
 refine Zi (.bool (decide ((r1 : Int) ≥ 0))) (Za (GL.nil ?_))
 exact Y1 I3 ⟨(decide ((r1 : Int) ≥ 0)), rfl, h⟩
def Qf8 (C : Ctx) (p_x : Str) (v0 : Nat × Nat) (K : Bool → Heap → Prop) (H : Heap) : Prop :=
 ldV H v0 fun x1 =>
 callU Tryz.prog C x1 [sv p_x] H (fun v H4 => ∃ (r3 : Bool), v = .bool r3 ∧
 K (!r3) H4)
theorem QjQ (C p_x v0 K H) (h : Qf8 C p_x v0 K H) : Qgu C p_x v0 K H := by
 refine Ye Tryz.func186 rfl Tryz.ntmps186 [(0, sv p_x), (1, pv (some v0))] (Zo (Za (GL.nil (Zo (Yl h fun x1 h => ?_)))))
 refine Zm (GL.callU (xv := x1) (vs := [sv p_x]) h trivial rfl rfl rfl ?_)
 rintro _ H4 ⟨r3, rfl, h⟩
 refine Zv (OV.not rfl) (Za (GL.nil ?_))
 exact Y1 I3 ⟨(!r3), rfl, h⟩
def Qf4 (C : Ctx) (p_s : Str) (p_prefix : Str) (K : Bool → Heap → Prop) (H : Heap) : Prop :=
 Qaj C p_s p_prefix (fun r1 H2 =>
 K r1 H2) H
theorem QjM (C p_s p_prefix K H) (h : Qf4 C p_s p_prefix K H) : Qgs C p_s p_prefix K H := by
 refine Ye Tryz.func187 rfl Tryz.ntmps187 [(0, sv p_s), (1, sv p_prefix)] (Zo (Za (GL.nil (Zo (Zm (Zm (Zc h Qb4 ?_)))))))
 rintro _ H2 ⟨r1, rfl, h⟩
 refine Za (GL.nil ?_)
 exact Y1 I3 ⟨r1, rfl, h⟩
def Qaw (C : Ctx) (p_s : Sl) (p_f : Value) (K : Bool → Heap → Prop) (H : Heap) : Prop :=
 Qa1 C p_s p_f (fun r1 H2 =>
 K (decide ((r1 : Int) ≥ 0)) H2) H
theorem Qcg (C p_s p_f K H) (h : Qaw C p_s p_f K H) : QaE C p_s p_f K H := by
 refine Ye Tryz.func188 rfl Tryz.ntmps188 [(0, slv p_s), (1, p_f)] (Zo (Za (GL.nil (Zo (Zm (Zm (Zc h QcN ?_)))))))
 rintro _ H2 ⟨r1, rfl, h⟩
 refine Zi (.bool (decide ((r1 : Int) ≥ 0))) (Za (GL.nil ?_))
 exact Y1 I3 ⟨(decide ((r1 : Int) ≥ 0)), rfl, h⟩
def Qek (C : Ctx) (p_x : Qe) (v0 : Nat × Nat) (K : Bool → Heap → Prop) (H : Heap) : Prop :=
 nw (Qe.c p_x) (fun b1 H2 =>
 ldV H2 v0 fun x3 =>
 ldT H2 Qe.c (b1, 0) fun x5 =>
 callU Tryz.prog C x3 [.agg (Qe.c x5).toArray] H2 (fun v H8 => ∃ (r7 : Bool), v = .bool r7 ∧
 K (!r7) H8)) H
theorem Qhc (C p_x v0 K H) (h : Qek C p_x v0 K H) : Qex C p_x v0 K H := by
 refine Ye Tryz.func189 rfl Tryz.ntmps189 [(0, .agg (Qe.c p_x).toArray), (1, pv (some v0))] (Zo (GL.box (v := .agg (Qe.c p_x).toArray) (cs := Qe.c p_x) h trivial rfl rfl rfl ?_))
 intro b1 H2 h
 refine Za (GL.nil (Zo (Yl h fun x3 h => ?_)))
 obtain ⟨x5, hr6, h⟩ := h
 refine Zv (OV.loadT rfl rfl rfl hr6) (GL.callU (xv := x3) (vs := [.agg (Qe.c x5).toArray]) h trivial rfl rfl rfl ?_)
 rintro _ H8 ⟨r7, rfl, h⟩
 refine Zv (OV.not rfl) (Za (GL.nil ?_))
 exact Y1 I3 ⟨(!r7), rfl, h⟩
def Qba (C : Ctx) (p_s : Sl) (p_f : Value) (K : Int → Heap → Prop) (H : Heap) : Prop :=
 lp (α := Int) 0 H (fun x1 J2 H3 =>
 ift (decide ((x1 : Int) < (Sl.len p_s : Int)))
 (ixa p_s x1 fun p5 =>
 ldT H3 Qh.c (p5.1, p5.2 + (x1 : Int).toNat * 6) fun x10 =>
 callU Tryz.prog C p_f [.agg (Qh.c x10).toArray] H3 (fun v H13 => ∃ (r12 : Bool), v = .bool r12 ∧
 ift r12
 (K x1 H13)
 (J2 (w .i64 (x1 + 1)) H13)))
 (K (-1) H3))
theorem Qc9 (C p_s p_f K H) (h : Qba C p_s p_f K H) : Qbk C p_s p_f K H := by
 refine Ye Tryz.func190 rfl Tryz.ntmps190 [(0, slv p_s), (1, p_f)] (Zo (Za (GL.nil (GC.seq (Zo (Zm (Zq (Zm (GL.nil (GC.block (Yp h (fun x1 => [(8, .int .i64 x1), (0, slv p_s), (1, p_f), (7, .int .i64 (Sl.len p_s : Int))]) ?_)))))))))))
 intro x1 H3 J2 h
 refine Zo (Zi (.bool (decide ((x1 : Int) < (Sl.len p_s : Int)))) (GL.nil (GC.seq (Yd h (fun u4 h => ?_) fun u4 h => ?_))))
 refine GC.skip (GC.seq (GC.block (Zo (Zm (Za (GL.nil (Zo (Zm (Zm (Zm (Yx h fun p5 h => ?_)))))))))))
 obtain ⟨x10, v11, h⟩ := h
 refine Zv (OV.loadT rfl rfl rfl v11) (GL.callU (xv := p_f) (vs := [.agg (Qh.c x10).toArray]) h trivial rfl rfl rfl ?_)
 rintro _ H13 ⟨r12, rfl, h⟩
 refine GL.nil (Yd h (fun u14 h => ?_) fun u14 h => ?_)
 refine Zo (Zm (Za (GL.nil ?_)))
 exact Y1 I3 ⟨x1, rfl, h⟩
 refine GC.skip_to (fun _ _ h => h) (GC.region (Zi (.int .i64 (w .i64 (x1 + 1))) (Zm ?_)))
 exact Yj I3 (w .i64 (x1 + 1)) h
 refine GC.exit_to (fun _ _ h => h) (Zo (Za (GL.nil ?_)))
 exact Y1 I3 ⟨(-1), rfl, h⟩
def Qar (C : Ctx) (p_s : Sl) (p_f : Value) (K : Bool → Heap → Prop) (H : Heap) : Prop :=
 QaK C p_s p_f (fun r1 H2 =>
 K (decide ((r1 : Int) ≥ 0)) H2) H
theorem QbZ (C p_s p_f K H) (h : Qar C p_s p_f K H) : Qas C p_s p_f K H := by
 refine Ye Tryz.func191 rfl Tryz.ntmps191 [(0, slv p_s), (1, p_f)] (Zo (Za (GL.nil (Zo (Zm (Zm (Zc h Qcw ?_)))))))
 rintro _ H2 ⟨r1, rfl, h⟩
 refine Zi (.bool (decide ((r1 : Int) ≥ 0))) (Za (GL.nil ?_))
 exact Y1 I3 ⟨(decide ((r1 : Int) ≥ 0)), rfl, h⟩
def QdY (C : Ctx) (p_x : Qc) (v0 : Nat × Nat) (K : Bool → Heap → Prop) (H : Heap) : Prop :=
 nw (Qc.c p_x) (fun b1 H2 =>
 ldV H2 v0 fun x3 =>
 ldT H2 Qc.c (b1, 0) fun x5 =>
 callU Tryz.prog C x3 [.agg (Qc.c x5).toArray] H2 (fun v H8 => ∃ (r7 : Bool), v = .bool r7 ∧
 K (!r7) H8)) H
theorem QgK (C p_x v0 K H) (h : QdY C p_x v0 K H) : Qee C p_x v0 K H := by
 refine Ye Tryz.func192 rfl Tryz.ntmps192 [(0, .agg (Qc.c p_x).toArray), (1, pv (some v0))] (Zo (GL.box (v := .agg (Qc.c p_x).toArray) (cs := Qc.c p_x) h trivial rfl rfl rfl ?_))
 intro b1 H2 h
 refine Za (GL.nil (Zo (Yl h fun x3 h => ?_)))
 obtain ⟨x5, hr6, h⟩ := h
 refine Zv (OV.loadT rfl rfl rfl hr6) (GL.callU (xv := x3) (vs := [.agg (Qc.c x5).toArray]) h trivial rfl rfl rfl ?_)
 rintro _ H8 ⟨r7, rfl, h⟩
 refine Zv (OV.not rfl) (Za (GL.nil ?_))
 exact Y1 I3 ⟨(!r7), rfl, h⟩
def Qf7 (C : Ctx) (p_l : Sl) (p_is : Value) (K : Bool → Heap → Prop) (H : Heap) : Prop :=
 (Value.cells p_is = #[p_is]) ∧ nw ([p_is]) (fun b1 H2 =>
 Qbq C p_l (.func (.func 225) (List.toArray []) (List.toArray [pv (some (b1, 0))]) : Value) (fun r4 H5 =>
 K (!r4) H5) H2) H
theorem QjP (C p_l p_is K H) (h : Qf7 C p_l p_is K H) : Q6 C p_l p_is K H := by
 refine Ye Tryz.func193 rfl Tryz.ntmps193 [(0, slv p_l), (1, p_is)] (Zo ?_)
 obtain ⟨u3, h⟩ := h
 refine GL.box (v := p_is) (cs := [p_is]) h trivial rfl rfl u3 ?_
 intro b1 H2 h
 refine Za (GL.nil (Zo (Zm (Zv (OV.makeFunc (vs := []) (us := [pv (some (b1, 0))]) rfl rfl) (Zc h Qdu ?_)))))
 rintro _ H5 ⟨r4, rfl, h⟩
 refine Zv (OV.not rfl) (Za (GL.nil ?_))
 exact Y1 I3 ⟨(!r4), rfl, h⟩
def QbG (C : Ctx) (p_s : Sl) (p_f : Value) (K : Int → Heap → Prop) (H : Heap) : Prop :=
 lp (α := Int) 0 H (fun x1 J2 H3 =>
 ift (decide ((x1 : Int) < (Sl.len p_s : Int)))
 (ixa p_s x1 fun p5 =>
 ldT H3 Qk.c (p5.1, p5.2 + (x1 : Int).toNat * 6) fun x10 =>
 callU Tryz.prog C p_f [.agg (Qk.c x10).toArray] H3 (fun v H13 => ∃ (r12 : Bool), v = .bool r12 ∧
 ift r12
 (K x1 H13)
 (J2 (w .i64 (x1 + 1)) H13)))
 (K (-1) H3))
theorem Qd1 (C p_s p_f K H) (h : QbG C p_s p_f K H) : QbN C p_s p_f K H := by
 refine Ye Tryz.func194 rfl Tryz.ntmps194 [(0, slv p_s), (1, p_f)] (Zo (Za (GL.nil (GC.seq (Zo (Zm (Zq (Zm (GL.nil (GC.block (Yp h (fun x1 => [(8, .int .i64 x1), (0, slv p_s), (1, p_f), (7, .int .i64 (Sl.len p_s : Int))]) ?_)))))))))))
 intro x1 H3 J2 h
 refine Zo (Zi (.bool (decide ((x1 : Int) < (Sl.len p_s : Int)))) (GL.nil (GC.seq (Yd h (fun u4 h => ?_) fun u4 h => ?_))))
 refine GC.skip (GC.seq (GC.block (Zo (Zm (Za (GL.nil (Zo (Zm (Zm (Zm (Yx h fun p5 h => ?_)))))))))))
 obtain ⟨x10, v11, h⟩ := h
 refine Zv (OV.loadT rfl rfl rfl v11) (GL.callU (xv := p_f) (vs := [.agg (Qk.c x10).toArray]) h trivial rfl rfl rfl ?_)
 rintro _ H13 ⟨r12, rfl, h⟩
 refine GL.nil (Yd h (fun u14 h => ?_) fun u14 h => ?_)
 refine Zo (Zm (Za (GL.nil ?_)))
 exact Y1 I3 ⟨x1, rfl, h⟩
 refine GC.skip_to (fun _ _ h => h) (GC.region (Zi (.int .i64 (w .i64 (x1 + 1))) (Zm ?_)))
 exact Yj I3 (w .i64 (x1 + 1)) h
 refine GC.exit_to (fun _ _ h => h) (Zo (Za (GL.nil ?_)))
 exact Y1 I3 ⟨(-1), rfl, h⟩
def Qkj (C : Ctx) (p_s : Str) (p_sep : Str) (K : Str → Str → Bool → Heap → Prop) (H : Heap) : Prop :=
 QdX C p_s p_sep (fun r1 r2 r3 H4 =>
 K r1 r2 r3 H4) H
theorem Qnr (C p_s p_sep K H) (h : Qkj C p_s p_sep K H) : Qgh C p_s p_sep K H := by
 refine Ye Tryz.func195 rfl Tryz.ntmps195 [(0, sv p_s), (1, sv p_sep)] (Zo (Za (Za (Za (GL.nil (Zo (Zm (Zm (Zc h Qgx ?_)))))))))
 rintro _ H4 ⟨r1, r2, r3, rfl, h⟩
 refine Yv (sv r1) rfl rfl (Yv (sv r2) rfl rfl (Yv (.bool r3) rfl rfl (Za (Za (Za (GL.nil ?_))))))
 exact Y3 I3 ⟨r1, r2, r3, rfl, h⟩
def Qbl (C : Ctx) (p_s : Sl) (p_f : Value) (K : Bool → Heap → Prop) (H : Heap) : Prop :=
 QbM C p_s p_f (fun r1 H2 =>
 K (decide ((r1 : Int) ≥ 0)) H2) H
theorem Qdo (C p_s p_f K H) (h : Qbl C p_s p_f K H) : Qbo C p_s p_f K H := by
 refine Ye Tryz.func196 rfl Tryz.ntmps196 [(0, slv p_s), (1, p_f)] (Zo (Za (GL.nil (Zo (Zm (Zm (Zc h Qd8 ?_)))))))
 rintro _ H2 ⟨r1, rfl, h⟩
 refine Zi (.bool (decide ((r1 : Int) ≥ 0))) (Za (GL.nil ?_))
 exact Y1 I3 ⟨(decide ((r1 : Int) ≥ 0)), rfl, h⟩
def Qfi (C : Ctx) (p_x : Qa) (v0 : Nat × Nat) (K : Bool → Heap → Prop) (H : Heap) : Prop :=
 nw (Qa.c p_x) (fun b1 H2 =>
 ldV H2 v0 fun x3 =>
 ldT H2 Qa.c (b1, 0) fun x5 =>
 callU Tryz.prog C x3 [.agg (Qa.c x5).toArray] H2 (fun v H8 => ∃ (r7 : Bool), v = .bool r7 ∧
 K (!r7) H8)) H
theorem QiN (C p_x v0 K H) (h : Qfi C p_x v0 K H) : QfB C p_x v0 K H := by
 refine Ye Tryz.func197 rfl Tryz.ntmps197 [(0, .agg (Qa.c p_x).toArray), (1, pv (some v0))] (Zo (GL.box (v := .agg (Qa.c p_x).toArray) (cs := Qa.c p_x) h trivial rfl rfl rfl ?_))
 intro b1 H2 h
 refine Za (GL.nil (Zo (Yl h fun x3 h => ?_)))
 obtain ⟨x5, hr6, h⟩ := h
 refine Zv (OV.loadT rfl rfl rfl hr6) (GL.callU (xv := x3) (vs := [.agg (Qa.c x5).toArray]) h trivial rfl rfl rfl ?_)
 rintro _ H8 ⟨r7, rfl, h⟩
 refine Zv (OV.not rfl) (Za (GL.nil ?_))
 exact Y1 I3 ⟨(!r7), rfl, h⟩
def Qbs (C : Ctx) (p_s : Sl) (p_f : Value) (K : Int → Heap → Prop) (H : Heap) : Prop :=
 lp (α := Int) 0 H (fun x1 J2 H3 =>
 ift (decide ((x1 : Int) < (Sl.len p_s : Int)))
 (ixa p_s x1 fun p5 =>
 ldT H3 Qj.c (p5.1, p5.2 + (x1 : Int).toNat * 4) fun x10 =>
 callU Tryz.prog C p_f [.agg (Qj.c x10).toArray] H3 (fun v H13 => ∃ (r12 : Bool), v = .bool r12 ∧
 ift r12
 (K x1 H13)
 (J2 (w .i64 (x1 + 1)) H13)))
 (K (-1) H3))
theorem Qdv (C p_s p_f K H) (h : Qbs C p_s p_f K H) : Qbu C p_s p_f K H := by
 refine Ye Tryz.func198 rfl Tryz.ntmps198 [(0, slv p_s), (1, p_f)] (Zo (Za (GL.nil (GC.seq (Zo (Zm (Zq (Zm (GL.nil (GC.block (Yp h (fun x1 => [(8, .int .i64 x1), (0, slv p_s), (1, p_f), (7, .int .i64 (Sl.len p_s : Int))]) ?_)))))))))))
 intro x1 H3 J2 h
 refine Zo (Zi (.bool (decide ((x1 : Int) < (Sl.len p_s : Int)))) (GL.nil (GC.seq (Yd h (fun u4 h => ?_) fun u4 h => ?_))))
 refine GC.skip (GC.seq (GC.block (Zo (Zm (Za (GL.nil (Zo (Zm (Zm (Zm (Yx h fun p5 h => ?_)))))))))))
 obtain ⟨x10, v11, h⟩ := h
 refine Zv (OV.loadT rfl rfl rfl v11) (GL.callU (xv := p_f) (vs := [.agg (Qj.c x10).toArray]) h trivial rfl rfl rfl ?_)
 rintro _ H13 ⟨r12, rfl, h⟩
 refine GL.nil (Yd h (fun u14 h => ?_) fun u14 h => ?_)
 refine Zo (Zm (Za (GL.nil ?_)))
 exact Y1 I3 ⟨x1, rfl, h⟩
 refine GC.skip_to (fun _ _ h => h) (GC.region (Zi (.int .i64 (w .i64 (x1 + 1))) (Zm ?_)))
 exact Yj I3 (w .i64 (x1 + 1)) h
 refine GC.exit_to (fun _ _ h => h) (Zo (Za (GL.nil ?_)))
 exact Y1 I3 ⟨(-1), rfl, h⟩
def QaY (C : Ctx) (p_s : Sl) (p_f : Value) (K : Int → Heap → Prop) (H : Heap) : Prop :=
 lp (α := Int) 0 H (fun x1 J2 H3 =>
 ift (decide ((x1 : Int) < (Sl.len p_s : Int)))
 (ixa p_s x1 fun p5 =>
 ldT H3 Qd.c (p5.1, p5.2 + (x1 : Int).toNat * 5) fun x10 =>
 callU Tryz.prog C p_f [.agg (Qd.c x10).toArray] H3 (fun v H13 => ∃ (r12 : Bool), v = .bool r12 ∧
 ift r12
 (K x1 H13)
 (J2 (w .i64 (x1 + 1)) H13)))
 (K (-1) H3))
theorem QcH (C p_s p_f K H) (h : QaY C p_s p_f K H) : Qa2 C p_s p_f K H := by
 refine Ye Tryz.func199 rfl Tryz.ntmps199 [(0, slv p_s), (1, p_f)] (Zo (Za (GL.nil (GC.seq (Zo (Zm (Zq (Zm (GL.nil (GC.block (Yp h (fun x1 => [(8, .int .i64 x1), (0, slv p_s), (1, p_f), (7, .int .i64 (Sl.len p_s : Int))]) ?_)))))))))))
 intro x1 H3 J2 h
 refine Zo (Zi (.bool (decide ((x1 : Int) < (Sl.len p_s : Int)))) (GL.nil (GC.seq (Yd h (fun u4 h => ?_) fun u4 h => ?_))))
 refine GC.skip (GC.seq (GC.block (Zo (Zm (Za (GL.nil (Zo (Zm (Zm (Zm (Yx h fun p5 h => ?_)))))))))))
 obtain ⟨x10, v11, h⟩ := h
 refine Zv (OV.loadT rfl rfl rfl v11) (GL.callU (xv := p_f) (vs := [.agg (Qd.c x10).toArray]) h trivial rfl rfl rfl ?_)
 rintro _ H13 ⟨r12, rfl, h⟩
 refine GL.nil (Yd h (fun u14 h => ?_) fun u14 h => ?_)
 refine Zo (Zm (Za (GL.nil ?_)))
 exact Y1 I3 ⟨x1, rfl, h⟩
 refine GC.skip_to (fun _ _ h => h) (GC.region (Zi (.int .i64 (w .i64 (x1 + 1))) (Zm ?_)))
 exact Yj I3 (w .i64 (x1 + 1)) h
 refine GC.exit_to (fun _ _ h => h) (Zo (Za (GL.nil ?_)))
 exact Y1 I3 ⟨(-1), rfl, h⟩
def Qac (C : Ctx) (p_s1 : Sl) (p_s2 : Sl) (p_eq : Value) (K : Bool → Heap → Prop) (H : Heap) : Prop :=
 ift (((Sl.len p_s1 : Int) : Int) != (Sl.len p_s2 : Int))
 (K false H)
 (lp (α := Int) 0 H (fun x2 J3 H4 =>
 ift (decide ((x2 : Int) < (Sl.len p_s1 : Int)))
 (ixa p_s1 x2 fun p6 =>
 ldT H4 Qf.c (p6.1, p6.2 + (x2 : Int).toNat * 2) fun x11 =>
 nw (Qf.c Qf.zero) (fun b13 H14 =>
 stT (b13, 0) (Qf.c x11) (fun H15 =>
 ixa p_s2 x2 fun p16 =>
 ldT H15 Qf.c (p16.1, p16.2 + (x2 : Int).toNat * 2) fun x21 =>
 nw (Qf.c Qf.zero) (fun b23 H24 =>
 stT (b23, 0) (Qf.c x21) (fun H25 =>
 ldT H25 Qf.c (b13, 0) fun x26 =>
 ldT H25 Qf.c (b23, 0) fun x28 =>
 callU Tryz.prog C p_eq [.agg (Qf.c x26).toArray, .agg (Qf.c x28).toArray] H25 (fun v H31 => ∃ (r30 : Bool), v = .bool r30 ∧
 ift (!r30)
 (K false H31)
 (J3 (w .i64 (x2 + 1)) H31))) H24) H15) H14) H4)
 (K true H4)))
theorem Qbz (C p_s1 p_s2 p_eq K H) (h : Qac C p_s1 p_s2 p_eq K H) : QB C p_s1 p_s2 p_eq K H := by
 refine Ye Tryz.func204 rfl Tryz.ntmps204 [(0, slv p_s1), (1, slv p_s2), (2, p_eq)] (Zo (Za (GL.nil (GC.seq (Zo (Zm (Zq (Zm (Zq (Zi (.bool (((Sl.len p_s1 : Int) : Int) != (Sl.len p_s2 : Int))) (GL.nil (Yd h (fun u1 h => ?_) fun u1 h => ?_))))))))))))
 refine Zo (Za (GL.nil ?_))
 exact Y1 I3 ⟨false, rfl, h⟩
 refine GC.skip (GC.seq (Zo (Zm (Zq (Zm (GL.nil (GC.block (Yp h (fun x2 => [(17, .int .i64 x2), (1, slv p_s2), (2, p_eq), (15, slv p_s1), (16, .int .i64 (Sl.len p_s1 : Int))]) ?_))))))))
 intro x2 H4 J3 h
 refine Zo (Zi (.bool (decide ((x2 : Int) < (Sl.len p_s1 : Int)))) (GL.nil (GC.seq (Yd h (fun u5 h => ?_) fun u5 h => ?_))))
 refine GC.skip (GC.seq (GC.block (Zo (Zm (Yx h fun p6 h => ?_)))))
 obtain ⟨x11, v12, h⟩ := h
 refine Zv (OV.loadT rfl rfl rfl v12) (GL.alloc (cs := Qf.c Qf.zero) h trivial rfl rfl rfl ?_)
 intro b13 H14 h
 refine Za (GL.storeT (p := (b13, 0)) (vs := Qf.c x11) h trivial rfl rfl rfl rfl ?_)
 intro H15 h
 refine GL.nil (Zo (Zm (Zm (Yx h fun p16 h => ?_))))
 obtain ⟨x21, v22, h⟩ := h
 refine Zv (OV.loadT rfl rfl rfl v22) (GL.alloc (cs := Qf.c Qf.zero) h trivial rfl rfl rfl ?_)
 intro b23 H24 h
 refine GL.storeT (p := (b23, 0)) (vs := Qf.c x21) h trivial rfl rfl rfl rfl ?_
 intro H25 h
 refine GL.nil (Zo (Zm ?_))
 obtain ⟨x26, v27, h⟩ := h
 refine Zv (OV.loadT rfl rfl rfl v27) ?_
 obtain ⟨x28, v29, h⟩ := h
 refine Zv (OV.loadT rfl rfl rfl v29) (GL.callU (xv := p_eq) (vs := [.agg (Qf.c x26).toArray, .agg (Qf.c x28).toArray]) h trivial rfl rfl rfl ?_)
 rintro _ H31 ⟨r30, rfl, h⟩
 refine Zv (OV.not rfl) (GL.nil (Yd h (fun u32 h => ?_) fun u32 h => ?_))
 refine Zo (Za (GL.nil ?_))
 exact Y1 I3 ⟨false, rfl, h⟩
 refine GC.skip_to (fun _ _ h => h) (GC.region (Zi (.int .i64 (w .i64 (x2 + 1))) (Zm ?_)))
 exact Yj I3 (w .i64 (x2 + 1)) h
 refine GC.exit_to (fun _ _ h => h) (Zo (Za (GL.nil ?_)))
 exact Y1 I3 ⟨true, rfl, h⟩
def Q3 (C : Ctx) (p_s1 : Sl) (p_s2 : Sl) (p_eq : Value) (K : Bool → Heap → Prop) (H : Heap) : Prop :=
 ift (((Sl.len p_s1 : Int) : Int) != (Sl.len p_s2 : Int))
 (K false H)
 (lp (α := Int) 0 H (fun x2 J3 H4 =>
 ift (decide ((x2 : Int) < (Sl.len p_s1 : Int)))
 (ixa p_s1 x2 fun p6 =>
 ldT H4 Qb.c (p6.1, p6.2 + (x2 : Int).toNat * 4) fun x11 =>
 nw (Qb.c Qb.zero) (fun b13 H14 =>
 stT (b13, 0) (Qb.c x11) (fun H15 =>
 ixa p_s2 x2 fun p16 =>
 ldT H15 Qb.c (p16.1, p16.2 + (x2 : Int).toNat * 4) fun x21 =>
 nw (Qb.c Qb.zero) (fun b23 H24 =>
 stT (b23, 0) (Qb.c x21) (fun H25 =>
 ldT H25 Qb.c (b13, 0) fun x26 =>
 ldT H25 Qb.c (b23, 0) fun x28 =>
 callU Tryz.prog C p_eq [.agg (Qb.c x26).toArray, .agg (Qb.c x28).toArray] H25 (fun v H31 => ∃ (r30 : Bool), v = .bool r30 ∧
 ift (!r30)
 (K false H31)
 (J3 (w .i64 (x2 + 1)) H31))) H24) H15) H14) H4)
 (K true H4)))
theorem Qbc (C p_s1 p_s2 p_eq K H) (h : Q3 C p_s1 p_s2 p_eq K H) : Qz C p_s1 p_s2 p_eq K H := by
 refine Ye Tryz.func205 rfl Tryz.ntmps205 [(0, slv p_s1), (1, slv p_s2), (2, p_eq)] (Zo (Za (GL.nil (GC.seq (Zo (Zm (Zq (Zm (Zq (Zi (.bool (((Sl.len p_s1 : Int) : Int) != (Sl.len p_s2 : Int))) (GL.nil (Yd h (fun u1 h => ?_) fun u1 h => ?_))))))))))))
 refine Zo (Za (GL.nil ?_))
 exact Y1 I3 ⟨false, rfl, h⟩
 refine GC.skip (GC.seq (Zo (Zm (Zq (Zm (GL.nil (GC.block (Yp h (fun x2 => [(17, .int .i64 x2), (1, slv p_s2), (2, p_eq), (15, slv p_s1), (16, .int .i64 (Sl.len p_s1 : Int))]) ?_))))))))
 intro x2 H4 J3 h
 refine Zo (Zi (.bool (decide ((x2 : Int) < (Sl.len p_s1 : Int)))) (GL.nil (GC.seq (Yd h (fun u5 h => ?_) fun u5 h => ?_))))
 refine GC.skip (GC.seq (GC.block (Zo (Zm (Yx h fun p6 h => ?_)))))
 obtain ⟨x11, v12, h⟩ := h
 refine Zv (OV.loadT rfl rfl rfl v12) (GL.alloc (cs := Qb.c Qb.zero) h trivial rfl rfl rfl ?_)
 intro b13 H14 h
 refine Za (GL.storeT (p := (b13, 0)) (vs := Qb.c x11) h trivial rfl rfl rfl rfl ?_)
 intro H15 h
 refine GL.nil (Zo (Zm (Zm (Yx h fun p16 h => ?_))))
 obtain ⟨x21, v22, h⟩ := h
 refine Zv (OV.loadT rfl rfl rfl v22) (GL.alloc (cs := Qb.c Qb.zero) h trivial rfl rfl rfl ?_)
 intro b23 H24 h
 refine GL.storeT (p := (b23, 0)) (vs := Qb.c x21) h trivial rfl rfl rfl rfl ?_
 intro H25 h
 refine GL.nil (Zo (Zm ?_))
 obtain ⟨x26, v27, h⟩ := h
 refine Zv (OV.loadT rfl rfl rfl v27) ?_
 obtain ⟨x28, v29, h⟩ := h
 refine Zv (OV.loadT rfl rfl rfl v29) (GL.callU (xv := p_eq) (vs := [.agg (Qb.c x26).toArray, .agg (Qb.c x28).toArray]) h trivial rfl rfl rfl ?_)
 rintro _ H31 ⟨r30, rfl, h⟩
 refine Zv (OV.not rfl) (GL.nil (Yd h (fun u32 h => ?_) fun u32 h => ?_))
 refine Zo (Za (GL.nil ?_))
 exact Y1 I3 ⟨false, rfl, h⟩
 refine GC.skip_to (fun _ _ h => h) (GC.region (Zi (.int .i64 (w .i64 (x2 + 1))) (Zm ?_)))
 exact Yj I3 (w .i64 (x2 + 1)) h
 refine GC.exit_to (fun _ _ h => h) (Zo (Za (GL.nil ?_)))
 exact Y1 I3 ⟨true, rfl, h⟩
def Qkx (C : Ctx) (p_v : Qb) (K : Int → Heap → Prop) (H : Heap) : Prop :=
 nw (Qb.c p_v) (fun b1 H2 =>
 ldT H2 Qb.c (b1, 0) fun x3 =>
 QbJ C x3 65 (fun r5 H6 =>
 ift (decide ((r5 : Int) > 64))
 (K 65 H6)
 (ldT H6 Qb.c (b1, 0) fun x8 =>
 Qap C x8 (fun r10 r11 H12 =>
 ift (!r10)
 (K 4 H12)
 (ift (!r11)
 (K 40 H12)
 (K 0 H12))) H6)) H2) H
theorem QnF (C p_v K H) (h : Qkx C p_v K H) : Qb3 C p_v K H := by
 refine Ye Tryz.func206 rfl Tryz.ntmps206 [(0, .agg (Qb.c p_v).toArray)] (Zo (GL.box (v := .agg (Qb.c p_v).toArray) (cs := Qb.c p_v) h trivial rfl rfl rfl ?_))
 intro b1 H2 h
 refine Za (GL.nil (GC.seq (Zo ?_)))
 obtain ⟨x3, v4, h⟩ := h
 refine Zv (OV.loadT rfl rfl rfl v4) (Zc h Qkc ?_)
 rintro _ H6 ⟨r5, rfl, h⟩
 refine Zi (.bool (decide ((r5 : Int) > 64))) (GL.nil (Yd h (fun u7 h => ?_) fun u7 h => ?_))
 refine Zo (Za (GL.nil ?_))
 exact Y1 I3 ⟨65, rfl, h⟩
 refine GC.skip (GC.seq (Zo ?_))
 obtain ⟨x8, v9, h⟩ := h
 refine Zv (OV.loadT rfl rfl rfl v9) (Zc h Qg1 ?_)
 rintro _ H12 ⟨r10, r11, rfl, h⟩
 refine Zm (Yv (.bool r10) rfl rfl (Yv (.bool r11) rfl rfl (Za (Za (GL.nil (GC.block (Zo (Zm (Zv (OV.not rfl) (Za (GL.nil (Yd h (fun u13 h => ?_) fun u13 h => ?_))))))))))))
 refine Zo (Za (GL.nil ?_))
 exact Y1 I3 ⟨4, rfl, h⟩
 refine Zo (Zm (Zv (OV.not rfl) (Za (GL.nil (Yd h (fun u14 h => ?_) fun u14 h => ?_)))))
 refine Zo (Za (GL.nil ?_))
 exact Y1 I3 ⟨40, rfl, h⟩
 refine GC.skip_to (fun _ _ h => h) (Zo (Za (GL.nil ?_)))
 exact Y1 I3 ⟨0, rfl, h⟩
def Qln (C : Ctx) (K : Option Nat → Heap → Prop) (H : Heap) : Prop :=
 mkM (fun b1 H2 =>
 upS sv (fun x : Int => (.int .i64 x : Value)) (some b1) [110, 111, 116] 1 (fun H3 =>
 upS sv (fun x : Int => (.int .i64 x : Value)) (some b1) [110, 101, 103] 1 (fun H4 =>
 upS sv (fun x : Int => (.int .i64 x : Value)) (some b1) [108, 101, 110] 1 (fun H5 =>
 upS sv (fun x : Int => (.int .i64 x : Value)) (some b1) [98, 105, 103] 1 (fun H6 =>
 upS sv (fun x : Int => (.int .i64 x : Value)) (some b1) [105, 110, 116] 1 (fun H7 =>
 nw ([sv [43], sv [45], sv [42], sv [47], sv [37], sv [43, 43], sv [61, 61], sv [33, 61], sv [60], sv [60, 61], sv [62], sv [62, 61], sv [97, 110, 100], sv [111, 114]]) (fun b8 H9 =>
 lp (α := Int) 0 H9 (fun x10 J11 H12 =>
 ift (decide ((x10 : Int) < (Sl.len (Sl.of (some (b8, 0)) 14 14) : Int)))
 (ixa (Sl.of (some (b8, 0)) 14 14) x10 fun p14 =>
 ldS H12 (p14.1, p14.2 + (x10 : Int).toNat * 1) fun x19 =>
 upS sv (fun x : Int => (.int .i64 x : Value)) (some b1) x19 2 (fun H21 =>
 J11 (w .i64 (x10 + 1)) H21) H12)
 (K (some b1) H12))) H7) H6) H5) H4) H3) H2) H
theorem Qof (C : Ctx) (K : Option Nat → Heap → Prop) (H : Heap) (h : Qln C  K H) : Qjc C  K H := by
 refine Spec.enter Tryz.func207 rfl Tryz.ntmps207 rfl (GC.sub [] trivial (Zo (Za (GL.nil (Zo (GL.makeMap h trivial rfl ?_))))))
 intro b1 H2 h
 refine GL.insertS (ke := sv) (enc := (fun x : Int => (.int .i64 x : Value))) (q := (some b1)) (k := [110, 111, 116]) (x := 1) h trivial rfl rfl rfl rfl (kText rfl) ?_
 intro H3 h
 refine GL.insertS (ke := sv) (enc := (fun x : Int => (.int .i64 x : Value))) (q := (some b1)) (k := [110, 101, 103]) (x := 1) h trivial rfl rfl rfl rfl (kText rfl) ?_
 intro H4 h
 refine GL.insertS (ke := sv) (enc := (fun x : Int => (.int .i64 x : Value))) (q := (some b1)) (k := [108, 101, 110]) (x := 1) h trivial rfl rfl rfl rfl (kText rfl) ?_
 intro H5 h
 refine GL.insertS (ke := sv) (enc := (fun x : Int => (.int .i64 x : Value))) (q := (some b1)) (k := [98, 105, 103]) (x := 1) h trivial rfl rfl rfl rfl (kText rfl) ?_
 intro H6 h
 refine GL.insertS (ke := sv) (enc := (fun x : Int => (.int .i64 x : Value))) (q := (some b1)) (k := [105, 110, 116]) (x := 1) h trivial rfl rfl rfl rfl (kText rfl) ?_
 intro H7 h
 refine Zm (Za (GL.nil (GC.seq (Zo (GL.buildSlice (cs := [sv [43], sv [45], sv [42], sv [47], sv [37], sv [43, 43], sv [61, 61], sv [33, 61], sv [60], sv [60, 61], sv [62], sv [62, 61], sv [97, 110, 100], sv [111, 114]]) h trivial rfl (vs := [(0, sv [43]), (1, sv [45]), (2, sv [42]), (3, sv [47]), (4, sv [37]), (5, sv [43, 43]), (6, sv [61, 61]), (7, sv [33, 61]), (8, sv [60]), (9, sv [60, 61]), (10, sv [62]), (11, sv [62, 61]), (12, sv [97, 110, 100]), (13, sv [111, 114])]) rfl ⟨9, fun _ => by kernel_rfl⟩ ?_)))))
 intro b8 H9 h
 refine Zq (Zm (GL.nil (GC.block (Yp h (fun x10 => [(8, .int .i64 x10), (1, mv (some b1)), (6, slv (Sl.of (some (b8, 0)) 14 14)), (7, .int .i64 (Sl.len (Sl.of (some (b8, 0)) 14 14) : Int))]) ?_))))
 intro x10 H12 J11 h
 refine Zo (Zi (.bool (decide ((x10 : Int) < (Sl.len (Sl.of (some (b8, 0)) 14 14) : Int)))) (GL.nil (GC.seq (Yd h (fun u13 h => ?_) fun u13 h => ?_))))
 refine GC.skip (GC.seq (GC.block (Zo (Yx h fun p14 h => ?_))))
 refine Yl h fun x19 h => ?_
 refine Za (GL.nil (GC.region (Zm (Zm (GL.mapUpdateS (ke := sv) (enc := (fun x : Int => (.int .i64 x : Value))) (q := (some b1)) (k := x19) (x := 2) h trivial rfl rfl rfl rfl (kText rfl) ?_)))))
 intro H21 h
 refine GL.nil_to (fun _ _ h => h) (GC.region (Zi (.int .i64 (w .i64 (x10 + 1))) (Zm ?_)))
 exact Yj I3 (w .i64 (x10 + 1)) h
 refine GC.exit_to (fun _ _ h => h) (Zo (Zm (Za (GL.nil ?_))))
 exact Y1 I3 ⟨(some b1), rfl, h⟩
def Ql4 (C : Ctx) (p_v : Qb) (K : Bool → Heap → Prop) (H : Heap) : Prop :=
 nw (Qb.c p_v) (fun b1 H2 =>
 ldI H2 .u8 ((b1, 0).1, (b1, 0).2 + 0) fun x3 =>
 jn (α := Bool) (fun b5 H11 =>
 jn (α := Bool) (fun b12 H18 =>
 jn (α := Bool) (fun b19 H25 =>
 K b19 H25)
 (fun J20 => ift b12
 (ldL H18 ((b1, 0).1, (b1, 0).2 + 3) fun x23 =>
 J20 (((Sl.len x23 : Int) : Int) == 0) H18)
 (J20 false H18)))
 (fun J13 => ift b5
 (ldS H11 ((b1, 0).1, (b1, 0).2 + 2) fun x16 =>
 J13 (x16 == ([] : Str)) H11)
 (J13 false H11)))
 (fun J6 => ift ((x3 : Int) == 0)
 (ldI H2 .i64 ((b1, 0).1, (b1, 0).2 + 1) fun x9 =>
 J6 ((x9 : Int) == 0) H2)
 (J6 false H2))) H
theorem Qo5 (C p_v K H) (h : Ql4 C p_v K H) : Qet C p_v K H := by
 refine Ye Tryz.func208 rfl Tryz.ntmps208 [(0, .agg (Qb.c p_v).toArray)] (Zo (GL.box (v := .agg (Qb.c p_v).toArray) (cs := Qb.c p_v) h trivial rfl rfl rfl ?_))
 intro b1 H2 h
 refine Za (GL.nil (Zo (Zf (Yl h fun x3 h => ?_))))
 refine Zi (.bool ((x3 : Int) == 0)) (Zm ?_)
 obtain ⟨J6, h, hR7⟩ := h
 refine GL.cut (α := Bool) 4 J6 (fun b5 => [(10, .bool b5), (1, pv (some (b1, 0)))]) ?_ ?_
 rcases h.em with ⟨u8, h⟩ | ⟨u8, h⟩
 refine Zu u8 Yf ?_
 obtain ⟨x9, v10, h⟩ := h
 refine Zu u8 (Yo v10) (Zu u8 (OV.ibin (v := .bool ((x9 : Int) == 0)) rfl rfl rfl) (Zt u8 ?_))
 exact Yj I3 ((x9 : Int) == 0) h
 refine Zk u8 (Zk u8 (Zk u8 (Zn u8 ?_)))
 exact Yj I3 false h
 intro b5 H11 h
 replace h := hR7 b5 H11 h
 refine Zm ?_
 obtain ⟨J13, h, hR14⟩ := h
 refine GL.cut (α := Bool) 4 J13 (fun b12 => [(15, .bool b12), (1, pv (some (b1, 0)))]) ?_ ?_
 rcases h.em with ⟨u15, h⟩ | ⟨u15, h⟩
 refine Zu u15 Yf ?_
 obtain ⟨x16, v17, h⟩ := h
 refine Zu u15 (Yo v17) (Zu u15 (OV.sbin (a := x16) (b := ([] : Str)) (v := .bool (x16 == ([] : Str))) rfl rfl rfl) (Zt u15 ?_))
 exact Yj I3 (x16 == ([] : Str)) h
 refine Zk u15 (Zk u15 (Zk u15 (Zn u15 ?_)))
 exact Yj I3 false h
 intro b12 H18 h
 replace h := hR14 b12 H18 h
 refine Zm ?_
 obtain ⟨J20, h, hR21⟩ := h
 refine GL.cut (α := Bool) 5 J20 (fun b19 => [(21, .bool b19)]) ?_ ?_
 rcases h.em with ⟨u22, h⟩ | ⟨u22, h⟩
 refine Zu u22 Yf ?_
 obtain ⟨x23, v24, h⟩ := h
 refine Zu u22 (Yo v24) (Zu u22 (OV.lenSl rfl rfl) (Zu u22 (OV.ibin (v := .bool (((Sl.len x23 : Int) : Int) == 0)) rfl rfl rfl) (Zt u22 ?_)))
 exact Yj I3 (((Sl.len x23 : Int) : Int) == 0) h
 refine Zk u22 (Zk u22 (Zk u22 (Zk u22 (Zn u22 ?_))))
 exact Yj I3 false h
 intro b19 H25 h
 replace h := hR21 b19 H25 h
 refine Za (GL.nil ?_)
 exact Y1 I3 ⟨b19, rfl, h⟩
def Qkv (C : Ctx) (p_x : Qa) (v0 : Nat × Nat) (K : Bool → Heap → Prop) (H : Heap) : Prop :=
 nw (Qa.c p_x) (fun b1 H2 =>
 ldT H2 Qa.c (b1, 0) fun x3 =>
 ldB H2 v0 fun x5 =>
 QcK C x3 x5 (fun r7 H8 =>
 K r7 H8) H2) H
theorem QnD (C p_x v0 K H) (h : Qkv C p_x v0 K H) : QdU C p_x v0 K H := by
 refine Ye Tryz.func209 rfl Tryz.ntmps209 [(0, .agg (Qa.c p_x).toArray), (1, pv (some v0))] (Zo (GL.box (v := .agg (Qa.c p_x).toArray) (cs := Qa.c p_x) h trivial rfl rfl rfl ?_))
 intro b1 H2 h
 refine Za (GL.nil (Zo ?_))
 obtain ⟨x3, hr4, h⟩ := h
 refine Zv (OV.loadT rfl rfl rfl hr4) (Yl h fun x5 h => ?_)
 refine Zc h Qjm ?_
 rintro _ H8 ⟨r7, rfl, h⟩
 refine Za (GL.nil ?_)
 exact Y1 I3 ⟨r7, rfl, h⟩
def QjE (C : Ctx) (p_l : Sl) (v0 : Nat × Nat) (v1 : Nat × Nat) (K : Heap → Prop) (H : Heap) : Prop :=
 Qo C (some v0) 40 (fun r1 H2 =>
 lp (α := Int) 0 H2 (fun x3 J4 H5 =>
 ift (decide ((x3 : Int) < (Sl.len p_l : Int)))
 (ixa p_l x3 fun p7 =>
 ldT H5 Qb.c (p7.1, p7.2 + (x3 : Int).toNat * 4) fun x12 =>
 nw (Qb.c Qb.zero) (fun b14 H15 =>
 stT (b14, 0) (Qb.c x12) (fun H16 =>
 jn (α := Unit) (fun x18 H19 =>
 ldV H19 v1 fun x25 =>
 ldT H19 Qb.c (b14, 0) fun x27 =>
 callU Tryz.prog C x25 [.agg (Qb.c x27).toArray] H19 (fun v H29 => v = .tuple #[] ∧
 J4 (w .i64 (x3 + 1)) H29))
 (fun J17 => ift (decide ((x3 : Int) > 0))
 (Qm C (some v0) [44, 32] (fun r22 r23 H24 =>
 J17 () H24) H16)
 (J17 () H16))) H15) H5)
 (Qo C (some v0) 41 (fun r30 H31 =>
 K H31) H5))) H
theorem QmI (C p_l v0 v1 K H) (h : QjE C p_l v0 v1 K H) : Qhk C p_l v0 v1 K H := by
 refine Ye Tryz.func210 rfl Tryz.ntmps210 [(0, slv p_l), (1, pv (some v0)), (2, pv (some v1))] (Zo (Zc h Qq ?_))
 rintro _ H2 ⟨r1, rfl, h⟩
 refine GL.nil (GC.seq (Zo (Zm (Zq (Zm (GL.nil (GC.block (Yp h (fun x3 => [(9, .int .i64 x3), (1, pv (some v0)), (2, pv (some v1)), (7, slv p_l), (8, .int .i64 (Sl.len p_l : Int))]) ?_))))))))
 intro x3 H5 J4 h
 refine Zo (Zi (.bool (decide ((x3 : Int) < (Sl.len p_l : Int)))) (GL.nil (GC.seq (Yd h (fun u6 h => ?_) fun u6 h => ?_))))
 refine GC.skip (GC.seq (GC.block (Zo (Zm (Yx h fun p7 h => ?_)))))
 obtain ⟨x12, hr13, h⟩ := h
 refine Zv (OV.loadT rfl rfl rfl hr13) (GL.alloc (cs := Qb.c Qb.zero) h trivial rfl rfl rfl ?_)
 intro b14 H15 h
 refine Za (GL.storeT (p := (b14, 0)) (vs := Qb.c x12) h trivial rfl rfl rfl rfl ?_)
 intro H16 h
 refine GL.nil ?_
 obtain ⟨J17, h, hR20⟩ := h
 refine GC.join (α := Unit) J17 (fun _ => [(1, pv (some v0)), (2, pv (some v1)), (5, pv (some (b14, 0))), (7, slv p_l), (8, .int .i64 (Sl.len p_l : Int)), (9, .int .i64 x3)]) ?_ ?_
 refine Zo (Zm (Zi (.bool (decide ((x3 : Int) > 0))) (GL.nil (Yd h (fun u21 h => ?_) fun u21 h => ?_))))
 refine GC.region (Zc h Qn ?_)
 rintro _ H24 ⟨r22, r23, rfl, h⟩
 exact Yj I3 () h
 exact Yk I3 () h
 intro x18 H19 h
 replace h := hR20 x18 H19 h
 refine GC.region (Yl h fun x25 h => ?_)
 obtain ⟨x27, hr28, h⟩ := h
 refine Zv (OV.loadT rfl rfl rfl hr28) (GL.callU (xv := x25) (vs := [.agg (Qb.c x27).toArray]) h trivial rfl rfl rfl ?_)
 rintro _ H29 ⟨rfl, h⟩
 refine GL.nil_to (fun _ _ h => h) (GC.region (Zi (.int .i64 (w .i64 (x3 + 1))) (Zm ?_)))
 exact Yj I3 (w .i64 (x3 + 1)) h
 refine GC.exit_to (fun _ _ h => h) (GC.region (Zc h Qq ?_))
 rintro _ H31 ⟨r30, rfl, h⟩
 exact GL.ends (fun _ _ hf hs => QC rfl hf hs ⟨rfl, h⟩)
def QjF (C : Ctx) (p_v : Qb) (v0 : Nat × Nat) (v1 : Nat × Nat) (K : Heap → Prop) (H : Heap) : Prop :=
 nw (Qb.c p_v) (fun b1 H2 =>
 ldI H2 .u8 ((b1, 0).1, (b1, 0).2 + 0) fun x3 =>
 ift ((x3 : Int) == 1)
 (ldI H2 .i64 ((b1, 0).1, (b1, 0).2 + 1) fun x6 =>
 Qd3 C ((x6 : Int) == 1) (fun r8 H9 =>
 Qm C (some v0) r8 (fun r10 r11 H12 =>
 K H12) H9) H2)
 (ift ((x3 : Int) == 2)
 (ldI H2 .i64 ((b1, 0).1, (b1, 0).2 + 1) fun x14 =>
 Qgr C x14 10 (fun r16 H17 =>
 Qm C (some v0) r16 (fun r18 r19 H20 =>
 K H20) H17) H2)
 (ift ((x3 : Int) == 3)
 (ldS H2 ((b1, 0).1, (b1, 0).2 + 2) fun x22 =>
 Qm C (some v0) x22 (fun r24 r25 H26 =>
 Qo C (some v0) 98 (fun r27 H28 =>
 K H28) H26) H2)
 (ift ((x3 : Int) == 4)
 (ldS H2 ((b1, 0).1, (b1, 0).2 + 2) fun x30 =>
 Qif C (some v0) x30 (fun H32 =>
 K H32) H2)
 (ift ((x3 : Int) == 5)
 (ldV H2 v1 fun x34 =>
 ldL H2 ((b1, 0).1, (b1, 0).2 + 3) fun x36 =>
 callU Tryz.prog C x34 [slv x36] H2 (fun v H38 => v = .tuple #[] ∧
 K H38))
 (ldS H2 ((b1, 0).1, (b1, 0).2 + 2) fun x39 =>
 Qm C (some v0) x39 (fun r41 r42 H43 =>
 ldL H43 ((b1, 0).1, (b1, 0).2 + 3) fun x44 =>
 ift (decide (((Sl.len x44 : Int) : Int) > 0))
 (ldV H43 v1 fun x47 =>
 ldL H43 ((b1, 0).1, (b1, 0).2 + 3) fun x49 =>
 callU Tryz.prog C x47 [slv x49] H43 (fun v H51 => v = .tuple #[] ∧
 K H51))
 (K H43)) H2)))))) H
theorem QmJ (C p_v v0 v1 K H) (h : QjF C p_v v0 v1 K H) : Qef C p_v v0 v1 K H := by
 refine Ye Tryz.func211 rfl Tryz.ntmps211 [(0, .agg (Qb.c p_v).toArray), (1, pv (some v0)), (2, pv (some v1))] (Zo (GL.box (v := .agg (Qb.c p_v).toArray) (cs := Qb.c p_v) h trivial rfl rfl rfl ?_))
 intro b1 H2 h
 refine GL.nil (Zo (Zf (Yl h fun x3 h => ?_)))
 refine GL.nil (GC.block (Zo (Zi (.bool ((x3 : Int) == 1)) (Za (GL.nil (Yd h (fun u5 h => ?_) fun u5 h => ?_))))))
 refine GC.region (Zf (Yl h fun x6 h => ?_))
 refine Zi (.bool ((x6 : Int) == 1)) (Zc h Qjk ?_)
 rintro _ H9 ⟨r8, rfl, h⟩
 refine Zc h Qn ?_
 rintro _ H12 ⟨r10, r11, rfl, h⟩
 exact GL.ends (fun _ _ hf hs => QC rfl hf hs ⟨rfl, h⟩)
 refine Zo (Zi (.bool ((x3 : Int) == 2)) (Za (GL.nil (Yd h (fun u13 h => ?_) fun u13 h => ?_))))
 refine GC.region (Zf (Yl h fun x14 h => ?_))
 refine Zc h QjU ?_
 rintro _ H17 ⟨r16, rfl, h⟩
 refine Zc h Qn ?_
 rintro _ H20 ⟨r18, r19, rfl, h⟩
 exact GL.ends (fun _ _ hf hs => QC rfl hf hs ⟨rfl, h⟩)
 refine Zo (Zi (.bool ((x3 : Int) == 3)) (Za (GL.nil (Yd h (fun u21 h => ?_) fun u21 h => ?_))))
 refine Zo (Zf (Yl h fun x22 h => ?_))
 refine Zc h Qn ?_
 rintro _ H26 ⟨r24, r25, rfl, h⟩
 refine GL.nil (GC.region (Zc h Qq ?_))
 rintro _ H28 ⟨r27, rfl, h⟩
 exact GL.ends (fun _ _ hf hs => QC rfl hf hs ⟨rfl, h⟩)
 refine Zo (Zi (.bool ((x3 : Int) == 4)) (Za (GL.nil (Yd h (fun u29 h => ?_) fun u29 h => ?_))))
 refine GC.region (Zf (Yl h fun x30 h => ?_))
 refine Zc h QnT ?_
 rintro _ H32 ⟨rfl, h⟩
 exact GL.ends (fun _ _ hf hs => QC rfl hf hs ⟨rfl, h⟩)
 refine Zo (Zi (.bool ((x3 : Int) == 5)) (Za (GL.nil (Yd h (fun u33 h => ?_) fun u33 h => ?_))))
 refine GC.region (Yl h fun x34 h => ?_)
 refine Zf (Yl h fun x36 h => ?_)
 refine GL.callU (xv := x34) (vs := [slv x36]) h trivial rfl rfl rfl ?_
 rintro _ H38 ⟨rfl, h⟩
 exact GL.ends (fun _ _ hf hs => QC rfl hf hs ⟨rfl, h⟩)
 refine Zo (Zf (Yl h fun x39 h => ?_))
 refine Zc h Qn ?_
 rintro _ H43 ⟨r41, r42, rfl, h⟩
 refine GL.nil (Zo (Zf (Yl h fun x44 h => ?_)))
 refine Zq (Zi (.bool (decide (((Sl.len x44 : Int) : Int) > 0))) (GL.nil (Yd h (fun u46 h => ?_) fun u46 h => ?_)))
 refine GC.region (Yl h fun x47 h => ?_)
 refine Zf (Yl h fun x49 h => ?_)
 refine GL.callU (xv := x47) (vs := [slv x49]) h trivial rfl rfl rfl ?_
 rintro _ H51 ⟨rfl, h⟩
 exact GL.ends (fun _ _ hf hs => QC rfl hf hs ⟨rfl, h⟩)
 exact GC.ends (fun _ _ hf hs => QC rfl hf hs ⟨rfl, h⟩)
def QfJ (C : Ctx) (p_b : Bool) (K : Str → Heap → Prop) (H : Heap) : Prop :=
 QcR C p_b (fun r1 H2 =>
 K r1 H2) H
theorem Qi5 (C p_b K H) (h : QfJ C p_b K H) : Qd3 C p_b K H := by
 refine Ye Tryz.func212 rfl Tryz.ntmps212 [(0, .bool p_b)] (Zo (Za (GL.nil (Zo (Zm (Zc h QfG ?_))))))
 rintro _ H2 ⟨r1, rfl, h⟩
 refine Za (GL.nil ?_)
 exact Y1 I3 ⟨r1, rfl, h⟩
def Qkz (C : Ctx) (p_b : Option (Nat × Nat)) (p_s : Str) (K : Heap → Prop) (H : Heap) : Prop :=
 Qo C p_b 34 (fun r1 H2 =>
 lp (α := Int) 0 H2 (fun x3 J4 H5 =>
 ift (decide ((x3 : Int) < (List.length p_s : Int)))
 (jn (α := Unit) (fun x8 H9 =>
 J4 (w .i64 (x3 + 1)) H9)
 (fun J7 => ixs p_s x3 fun c11 =>
 ift ((((c11.toNat : Int) : Int) == 34) || (((c11.toNat : Int) : Int) == 92))
 (Qo C p_b 92 (fun r16 H17 =>
 Qo C p_b (c11.toNat : Int) (fun r18 H19 =>
 J7 () H19) H17) H5)
 (ift (((c11.toNat : Int) : Int) == 10)
 (Qm C p_b [92, 110] (fun r21 r22 H23 =>
 J7 () H23) H5)
 (ift (((c11.toNat : Int) : Int) == 9)
 (Qm C p_b [92, 116] (fun r25 r26 H27 =>
 J7 () H27) H5)
 (ift ((decide (((c11.toNat : Int) : Int) ≥ 32)) && (decide (((c11.toNat : Int) : Int) ≤ 126)))
 (Qo C p_b (c11.toNat : Int) (fun r30 H31 =>
 J7 () H31) H5)
 (Qm C p_b [92, 120] (fun r32 r33 H34 =>
 ixs [48, 49, 50, 51, 52, 53, 54, 55, 56, 57, 97, 98, 99, 100, 101, 102] (sShr .u8 (c11.toNat : Int) 4) fun c35 =>
 Qo C p_b (c35.toNat : Int) (fun r38 H39 =>
 ixs [48, 49, 50, 51, 52, 53, 54, 55, 56, 57, 97, 98, 99, 100, 101, 102] (bAnd .u8 (c11.toNat : Int) 15) fun c40 =>
 Qo C p_b (c40.toNat : Int) (fun r43 H44 =>
 J7 () H44) H39) H34) H5))))))
 (Qo C p_b 34 (fun r45 H46 =>
 K H46) H5))) H
theorem QnH (C p_b p_s K H) (h : Qkz C p_b p_s K H) : Qif C p_b p_s K H := by
 refine Ye Tryz.func214 rfl Tryz.ntmps214 [(0, pv p_b), (1, sv p_s)] (Zo (Zm (Zc h Qq ?_)))
 rintro _ H2 ⟨r1, rfl, h⟩
 refine GL.nil (GC.seq (Zo (Zm (Zr (Zm (GL.nil (GC.block (Yp h (fun x3 => [(10, .int .i64 x3), (0, pv p_b), (1, sv p_s), (9, .int .i64 (List.length p_s : Int))]) ?_))))))))
 intro x3 H5 J4 h
 refine Zo (Zi (.bool (decide ((x3 : Int) < (List.length p_s : Int)))) (GL.nil (GC.seq (Yd h (fun hc6 h => ?_) fun hc6 h => ?_))))
 refine GC.skip ?_
 obtain ⟨J7, h, hR10⟩ := h
 refine GC.join (α := Unit) J7 (fun _ => [(0, pv p_b), (1, sv p_s), (9, .int .i64 (List.length p_s : Int)), (10, .int .i64 x3)]) ?_ ?_
 refine GC.block (Zo (Zm (Za (GL.nil (Zo (Zm (Zm (Ys h fun c11 h => ?_))))))))
 refine Za (GL.nil (GC.block (Zo (Zm (Zi (.bool (((c11.toNat : Int) : Int) == 34)) (Zm (GL.cut0 3 [(34, .bool ((((c11.toNat : Int) : Int) == 34) || (((c11.toNat : Int) : Int) == 92))), (0, pv p_b), (1, sv p_s), (5, .int .u8 (c11.toNat : Int)), (9, .int .i64 (List.length p_s : Int)), (10, .int .i64 x3)] ?_ ?_)))))))
 rcases Zb (((c11.toNat : Int) : Int) == 34) with hc14 | hc14
 refine Zk hc14 (Zk hc14 (Zt hc14 ?_))
 exact GL.jump0 (fun _ _ h => h) () rfl ⟨(by rw [hc14]; rfl), rfl, rfl, rfl, rfl, rfl, trivial⟩
 refine Zu hc14 Ym (Zu hc14 (OV.ibin (v := .bool (((c11.toNat : Int) : Int) == 92)) rfl rfl rfl) (Zn hc14 ?_))
 exact GL.jump0 (fun _ _ h => h) () rfl ⟨(by rw [hc14]; rfl), rfl, rfl, rfl, rfl, rfl, trivial⟩
 refine Za (GL.nil (Yd h (fun hc15 h => ?_) fun hc15 h => ?_))
 refine Zo (Zm (Zc h Qq ?_))
 rintro _ H17 ⟨r16, rfl, h⟩
 refine GL.nil (GC.region (Zm (Zm (Zc h Qq ?_))))
 rintro _ H19 ⟨r18, rfl, h⟩
 exact Yj I3 () h
 refine Zo (Zm (Zi (.bool (((c11.toNat : Int) : Int) == 10)) (Za (GL.nil (Yd h (fun hc20 h => ?_) fun hc20 h => ?_)))))
 refine GC.region (Zm (Zc h Qn ?_))
 rintro _ H23 ⟨r21, r22, rfl, h⟩
 exact Yj I3 () h
 refine Zo (Zm (Zi (.bool (((c11.toNat : Int) : Int) == 9)) (Za (GL.nil (Yd h (fun hc24 h => ?_) fun hc24 h => ?_)))))
 refine GC.region (Zm (Zc h Qn ?_))
 rintro _ H27 ⟨r25, r26, rfl, h⟩
 exact Yj I3 () h
 refine Zo (Zm (Zi (.bool (decide (((c11.toNat : Int) : Int) ≥ 32))) (Zm (GL.cut0 3 [(56, .bool ((decide (((c11.toNat : Int) : Int) ≥ 32)) && (decide (((c11.toNat : Int) : Int) ≤ 126)))), (0, pv p_b), (1, sv p_s), (5, .int .u8 (c11.toNat : Int)), (9, .int .i64 (List.length p_s : Int)), (10, .int .i64 x3)] ?_ ?_))))
 rcases Zb (decide (((c11.toNat : Int) : Int) ≥ 32)) with hc28 | hc28
 refine Zu hc28 Ym (Zu hc28 (OV.ibin (v := .bool (decide (((c11.toNat : Int) : Int) ≤ 126))) rfl rfl rfl) (Zt hc28 ?_))
 exact GL.jump0 (fun _ _ h => h) () rfl ⟨(by rw [hc28]; rfl), rfl, rfl, rfl, rfl, rfl, trivial⟩
 refine Zk hc28 (Zk hc28 (Zn hc28 ?_))
 exact GL.jump0 (fun _ _ h => h) () rfl ⟨(by rw [hc28]; rfl), rfl, rfl, rfl, rfl, rfl, trivial⟩
 refine Za (GL.nil (Yd h (fun hc29 h => ?_) fun hc29 h => ?_))
 refine GC.region (Zm (Zm (Zc h Qq ?_)))
 rintro _ H31 ⟨r30, rfl, h⟩
 exact Yj I3 () h
 refine Zo (Zm (Zc h Qn ?_))
 rintro _ H34 ⟨r32, r33, rfl, h⟩
 refine GL.nil (Zo (Zm (Zm (Zv (OV.shr rfl rfl (by decide)) (Ys h fun c35 h => ?_)))))
 refine Zc h Qq ?_
 rintro _ H39 ⟨r38, rfl, h⟩
 refine GL.nil (GC.region (Zm (Zm (Zi (.int .u8 (bAnd .u8 (c11.toNat : Int) 15)) (Ys h fun c40 h => ?_)))))
 refine Zc h Qq ?_
 rintro _ H44 ⟨r43, rfl, h⟩
 exact Yj I3 () h
 intro x8 H9 h
 replace h := hR10 x8 H9 h
 refine GC.region (Zi (.int .i64 (w .i64 (x3 + 1))) (Zm ?_))
 exact Yj I3 (w .i64 (x3 + 1)) h
 refine GC.exit_to (fun _ _ h => h) (GC.region (Zm (Zc h Qq ?_)))
 rintro _ H46 ⟨r45, rfl, h⟩
 exact GL.ends (fun _ _ hf hs => QC rfl hf hs ⟨rfl, h⟩)
def QiI (C : Ctx) (p_s : Str) (K : Bool → Heap → Prop) (H : Heap) : Prop :=
 K ((((p_s == ([110, 101, 103] : Str)) || (p_s == ([108, 101, 110] : Str))) || (p_s == ([98, 105, 103] : Str))) || (p_s == ([105, 110, 116] : Str))) H
theorem Qmc (C p_s K H) (h : QiI C p_s K H) : QeX C p_s K H := by
 refine Ye Tryz.func215 rfl Tryz.ntmps215 [(0, sv p_s)] (Zo (Za (GL.nil (Zo (Zm (Zv (OV.sbin (a := p_s) (b := ([110, 101, 103] : Str)) (v := .bool (p_s == ([110, 101, 103] : Str))) rfl rfl rfl) (Zm (GL.cut0 3 [(8, .bool ((p_s == ([110, 101, 103] : Str)) || (p_s == ([108, 101, 110] : Str)))), (0, sv p_s)] ?_ ?_))))))))
 rcases Zb (p_s == ([110, 101, 103] : Str)) with u1 | u1
 refine Zk u1 (Zk u1 (Zt u1 ?_))
 exact GL.jump0 (fun _ _ h => h) () rfl ⟨(by rw [u1]; rfl), rfl, trivial⟩
 refine Zu u1 Ym (Zu u1 (OV.sbin (a := p_s) (b := ([108, 101, 110] : Str)) (v := .bool (p_s == ([108, 101, 110] : Str))) rfl rfl rfl) (Zn u1 ?_))
 exact GL.jump0 (fun _ _ h => h) () rfl ⟨(by rw [u1]; rfl), rfl, trivial⟩
 refine Zm (GL.cut0 3 [(12, .bool (((p_s == ([110, 101, 103] : Str)) || (p_s == ([108, 101, 110] : Str))) || (p_s == ([98, 105, 103] : Str)))), (0, sv p_s)] ?_ ?_)
 rcases Zb ((p_s == ([110, 101, 103] : Str)) || (p_s == ([108, 101, 110] : Str))) with u2 | u2
 refine Zk u2 (Zk u2 (Zt u2 ?_))
 exact GL.jump0 (fun _ _ h => h) () rfl ⟨(by rw [u2]; rfl), rfl, trivial⟩
 refine Zu u2 Ym (Zu u2 (OV.sbin (a := p_s) (b := ([98, 105, 103] : Str)) (v := .bool (p_s == ([98, 105, 103] : Str))) rfl rfl rfl) (Zn u2 ?_))
 exact GL.jump0 (fun _ _ h => h) () rfl ⟨(by rw [u2]; rfl), rfl, trivial⟩
 refine Zm (GL.cut0 3 [(16, .bool ((((p_s == ([110, 101, 103] : Str)) || (p_s == ([108, 101, 110] : Str))) || (p_s == ([98, 105, 103] : Str))) || (p_s == ([105, 110, 116] : Str))))] ?_ ?_)
 rcases Zb (((p_s == ([110, 101, 103] : Str)) || (p_s == ([108, 101, 110] : Str))) || (p_s == ([98, 105, 103] : Str))) with u3 | u3
 refine Zk u3 (Zk u3 (Zt u3 ?_))
 exact GL.jump0 (fun _ _ h => h) () rfl ⟨(by rw [u3]; rfl), trivial⟩
 refine Zu u3 Ym (Zu u3 (OV.sbin (a := p_s) (b := ([105, 110, 116] : Str)) (v := .bool (p_s == ([105, 110, 116] : Str))) rfl rfl rfl) (Zn u3 ?_))
 exact GL.jump0 (fun _ _ h => h) () rfl ⟨(by rw [u3]; rfl), trivial⟩
 refine Za (GL.nil ?_)
 exact Y1 I3 ⟨((((p_s == ([110, 101, 103] : Str)) || (p_s == ([108, 101, 110] : Str))) || (p_s == ([98, 105, 103] : Str))) || (p_s == ([105, 110, 116] : Str))), rfl, h⟩
def Qen (C : Ctx) (p_w : Option (Nat × Nat)) (p_l : Sl) (p_write : Value) (K : Heap → Prop) (H : Heap) : Prop :=
 nck p_w fun p1 =>
 Qo C (some (p1.1, p1.2 + 0)) 40 (fun r3 H4 =>
 Qd6 C p_w p_l [44, 32] p_write (fun H5 =>
 nck p_w fun p6 =>
 Qo C (some (p6.1, p6.2 + 0)) 41 (fun r8 H9 =>
 K H9) H5) H4) H
theorem Qhf (C p_w p_l p_write K H) (h : Qen C p_w p_l p_write K H) : Qcr C p_w p_l p_write K H := by
 refine Ye Tryz.func216 rfl Tryz.ntmps216 [(0, pv p_w), (1, slv p_l), (2, p_write)] (Zo (Zm ?_))
 obtain ⟨p1, hp2, h⟩ := h
 refine Zv (OV.nilCheck (q := p_w) rfl hp2) (Zf (Zc h Qq ?_))
 rintro _ H4 ⟨r3, rfl, h⟩
 refine GL.nil (Zo (Zm (Zm (Zm (Zc h Qjo ?_)))))
 rintro _ H5 ⟨rfl, h⟩
 refine GL.nil (GC.region (Zm ?_))
 obtain ⟨p6, hp7, h⟩ := h
 refine Zv (OV.nilCheck (q := p_w) rfl hp7) (Zf (Zc h Qq ?_))
 rintro _ H9 ⟨r8, rfl, h⟩
 exact GL.ends (fun _ _ hf hs => QC rfl hf hs ⟨rfl, h⟩)
def QeI (C : Ctx) (p_l : Sl) (p_depth : Value) (K : Int → Heap → Prop) (H : Heap) : Prop :=
 lp (α := Int × Int) (0, 0) H (fun x1 J2 H3 =>
 ift (decide ((x1.2 : Int) < (Sl.len p_l : Int)))
 (ixa p_l x1.2 fun p5 =>
 ldT H3 Qf.c (p5.1, p5.2 + (x1.2 : Int).toNat * 2) fun x10 =>
 nw (Qf.c Qf.zero) (fun b12 H13 =>
 stT (b12, 0) (Qf.c x10) (fun H14 =>
 ldT H14 Qf.c (b12, 0) fun x15 =>
 callU Tryz.prog C p_depth [.agg (Qf.c x15).toArray] H14 (fun v H18 => ∃ (r17 : Int), v = .int .i64 r17 ∧
 J2 ((if r17 > x1.1 then r17 else x1.1 : Int), (w .i64 (x1.2 + 1))) H18)) H13) H3)
 (K x1.1 H3))
theorem QhC (C p_l p_depth K H) (h : QeI C p_l p_depth K H) : Q8 C p_l p_depth K H := by
 refine Ye Tryz.func218 rfl Tryz.ntmps218 [(0, slv p_l), (1, p_depth)] (Zo (Za (GL.nil (Zo (Za (GL.nil (GC.seq (Zo (Zm (Zq (Zm (GL.nil (GC.block (Yp h (fun x1 => [(5, .int .i64 x1.1), (10, .int .i64 x1.2), (1, p_depth), (8, slv p_l), (9, .int .i64 (Sl.len p_l : Int))]) ?_))))))))))))))
 intro x1 H3 J2 h
 refine Zo (Zi (.bool (decide ((x1.2 : Int) < (Sl.len p_l : Int)))) (GL.nil (GC.seq (Yd h (fun u4 h => ?_) fun u4 h => ?_))))
 refine GC.skip (GC.seq (GC.block (Zo (Yx h fun p5 h => ?_))))
 obtain ⟨x10, v11, h⟩ := h
 refine Zv (OV.loadT rfl rfl rfl v11) (GL.alloc (cs := Qf.c Qf.zero) h trivial rfl rfl rfl ?_)
 intro b12 H13 h
 refine GL.storeT (p := (b12, 0)) (vs := Qf.c x10) h trivial rfl rfl rfl rfl ?_
 intro H14 h
 refine GL.nil (GC.region (Zm (Zm ?_)))
 obtain ⟨x15, v16, h⟩ := h
 refine Zv (OV.loadT rfl rfl rfl v16) (GL.callU (xv := p_depth) (vs := [.agg (Qf.c x15).toArray]) h trivial rfl rfl rfl ?_)
 rintro _ H18 ⟨r17, rfl, h⟩
 refine Zv (OV.maxI rfl rfl) (Za (GL.nil_to (fun _ _ h => h) (GC.region (Zi (.int .i64 (w .i64 (x1.2 + 1))) (Zm ?_)))))
 exact Yj I3 ((if r17 > x1.1 then r17 else x1.1 : Int), (w .i64 (x1.2 + 1))) h
 refine GC.exit_to (fun _ _ h => h) (Zo (Zm (Za (GL.nil ?_))))
 exact Y1 I3 ⟨x1.1, rfl, h⟩
end
section
set_option maxRecDepth 100000
open Go Go.Proofs
def QcV (C : Ctx) (p_s : Str) (p_substr : Str) (K : Int → Heap → Prop) (H : Heap) : Prop :=
 ift ((((List.length p_substr : Int) : Int) == 0) || (p_substr == p_s))
 (K 0 H)
 (ift (((List.length p_substr : Int) : Int) == 1)
 (ixs p_substr 0 fun c4 =>
 Qa5 C p_s (c4.toNat : Int) (fun r7 H8 =>
 K r7 H8) H)
 (ift (decide (((List.length p_substr : Int) : Int) ≥ (List.length p_s : Int)))
 (K (-1) H)
 (ldI H .i64 (0, 0) fun x10 =>
 ift ((decide (((List.length p_substr : Int) : Int) ≤ x10)) && (decide (((List.length p_s : Int) : Int) ≤ 64)))
 (False)
 (ixs p_substr 0 fun c14 =>
 ixs p_substr 1 fun c17 =>
 lp (α := Int × Int) (0, 0) H (fun x20 J21 H22 =>
 ift (decide ((x20.1 : Int) < (w .i64 ((w .i64 ((List.length p_s : Int) - (List.length p_substr : Int))) + 1))))
 (jn (α := Int) (fun x25 H26 =>
 ixs p_s (w .i64 (x25 + 1)) fun c41 =>
 jn (α := Bool) (fun b44 H54 =>
 ift b44
 (K x25 H54)
 (ldI H54 .i64 (0, 0) fun x56 =>
 jn (α := Bool) (fun b58 H64 =>
 ift b58
 (False)
 (ldI H64 .i64 (0, 0) fun x72 =>
 ift (((decide (((List.length p_substr : Int) : Int) > x72)) && (decide (((w .i64 (x20.2 + 1)) : Int) ≥ (w .i64 (4 + (sShr .i64 (w .i64 (x25 + 1)) 4)))))) && (decide (((w .i64 (x25 + 1)) : Int) < (w .i64 ((w .i64 ((List.length p_s : Int) - (List.length p_substr : Int))) + 1)))))
 (slS p_s (w .i64 (x25 + 1)) (List.length p_s : Int) fun t77 =>
 Qdr C t77 p_substr (fun r83 H84 =>
 ift (decide ((r83 : Int) < 0))
 (K (-1) H84)
 (K (w .i64 ((w .i64 (x25 + 1)) + r83)) H84)) H64)
 (J21 ((w .i64 (x25 + 1)), (w .i64 (x20.2 + 1))) H64)))
 (fun J59 => ift (decide (((List.length p_substr : Int) : Int) ≤ x56))
 (QgM C (w .i64 (x25 + 1)) (fun r62 H63 =>
 J59 (decide (((w .i64 (x20.2 + 1)) : Int) > r62)) H63) H54)
 (J59 false H54))))
 (fun J45 => ift (((c41.toNat : Int) : Int) == (c17.toNat : Int))
 (slS p_s x25 (w .i64 (x25 + (List.length p_substr : Int))) fun t48 =>
 J45 (t48 == p_substr) H26)
 (J45 false H26)))
 (fun J24 => ixs p_s x20.1 fun c28 =>
 ift (((c28.toNat : Int) : Int) != (c14.toNat : Int))
 (slS p_s (w .i64 (x20.1 + 1)) (w .i64 ((w .i64 ((List.length p_s : Int) - (List.length p_substr : Int))) + 1)) fun t32 =>
 Qa5 C t32 (c14.toNat : Int) (fun r38 H39 =>
 ift (decide ((r38 : Int) < 0))
 (K (-1) H39)
 (J24 (w .i64 (x20.1 + (w .i64 (r38 + 1)))) H39)) H22)
 (J24 x20.1 H22)))
 (K (-1) H22))))))
theorem QfR (C p_s p_substr K H) (h : QcV C p_s p_substr K H) : QbI C p_s p_substr K H := by
 refine Ye Tryz.func219 rfl Tryz.ntmps219 [(0, sv p_s), (1, sv p_substr)] (Zo (Za (GL.nil (Zo (Zm (Zr (Za (GL.nil (GC.seq (GC.block (Zo (Zm (Zi (.bool (((List.length p_substr : Int) : Int) == 0)) (Zm (GL.cut0 4 [(23, .bool ((((List.length p_substr : Int) : Int) == 0) || (p_substr == p_s))), (0, sv p_s), (1, sv p_substr), (5, .int .i64 (List.length p_substr : Int))] ?_ ?_)))))))))))))))
 rcases Zb (((List.length p_substr : Int) : Int) == 0) with hc1 | hc1
 refine Zk hc1 (Zk hc1 (Zk hc1 (Zt hc1 ?_)))
 exact GL.jump0 (fun _ _ h => h) () rfl ⟨(by rw [hc1]; rfl), rfl, rfl, rfl, trivial⟩
 refine Zu hc1 Ym (Zu hc1 Ym (Zu hc1 (OV.sbin (a := p_substr) (b := p_s) (v := .bool (p_substr == p_s)) rfl rfl rfl) (Zn hc1 ?_)))
 exact GL.jump0 (fun _ _ h => h) () rfl ⟨(by rw [hc1]; rfl), rfl, rfl, rfl, trivial⟩
 refine Za (GL.nil (Yd h (fun hc2 h => ?_) fun hc2 h => ?_))
 refine Zo (Za (GL.nil ?_))
 exact Y1 I3 ⟨0, rfl, h⟩
 refine Zo (Zm (Zi (.bool (((List.length p_substr : Int) : Int) == 1)) (Za (GL.nil (Yd h (fun hc3 h => ?_) fun hc3 h => ?_)))))
 refine Zo (Zm (Zm (Ys h fun c4 h => ?_)))
 refine Zc h Qb5 ?_
 rintro _ H8 ⟨r7, rfl, h⟩
 refine Za (GL.nil ?_)
 exact Y1 I3 ⟨r7, rfl, h⟩
 refine Zo (Zm (Zm (Zr (Zi (.bool (decide (((List.length p_substr : Int) : Int) ≥ (List.length p_s : Int)))) (Za (GL.nil (Yd h (fun hc9 h => ?_) fun hc9 h => ?_)))))))
 refine Zo (Za (GL.nil ?_))
 exact Y1 I3 ⟨(-1), rfl, h⟩
 refine Zo (Zm (Yl h fun x10 h => ?_))
 refine Zi (.bool (decide (((List.length p_substr : Int) : Int) ≤ x10))) (Zm (GL.cut0 4 [(44, .bool ((decide (((List.length p_substr : Int) : Int) ≤ x10)) && (decide (((List.length p_s : Int) : Int) ≤ 64)))), (0, sv p_s), (1, sv p_substr), (5, .int .i64 (List.length p_substr : Int))] ?_ ?_))
 rcases Zb (decide (((List.length p_substr : Int) : Int) ≤ x10)) with hc12 | hc12
 refine Zu hc12 Ym (Zu hc12 (OV.lenStr rfl rfl) (Zu hc12 (OV.ibin (v := .bool (decide (((List.length p_s : Int) : Int) ≤ 64))) rfl rfl rfl) (Zt hc12 ?_)))
 exact GL.jump0 (fun _ _ h => h) () rfl ⟨(by rw [hc12]; rfl), rfl, rfl, rfl, trivial⟩
 refine Zk hc12 (Zk hc12 (Zk hc12 (Zn hc12 ?_)))
 exact GL.jump0 (fun _ _ h => h) () rfl ⟨(by rw [hc12]; rfl), rfl, rfl, rfl, trivial⟩
 refine Za (GL.nil (Yd h (fun hc13 h => ?_) fun hc13 h => ?_))
 refine GC.seq ?_
 exact GC.never h
 refine GC.skip_to (fun _ _ h => h) (Zo (Zm ?_))
 refine Ys h fun c14 h => ?_
 refine Za (GL.nil (Zo (Zm (Ys h fun c17 h => ?_))))
 refine Za (GL.nil (Zo (Za (GL.nil (Zo (Zm (Zr (Zm (Zi (.int .i64 (w .i64 ((List.length p_s : Int) - (List.length p_substr : Int)))) (Zi (.int .i64 (w .i64 ((w .i64 ((List.length p_s : Int) - (List.length p_substr : Int))) + 1))) (Za (GL.nil (Zo (Za (GL.nil (GC.seq (GC.block (Yp h (fun x20 => [(8, .int .i64 x20.1), (10, .int .i64 x20.2), (0, sv p_s), (1, sv p_substr), (5, .int .i64 (List.length p_substr : Int)), (6, .int .u8 (c14.toNat : Int)), (7, .int .u8 (c17.toNat : Int)), (9, .int .i64 (w .i64 ((w .i64 ((List.length p_s : Int) - (List.length p_substr : Int))) + 1)))]) ?_))))))))))))))))))
 intro x20 H22 J21 h
 refine GC.seq (Zo (Zm (Zm (Zi (.bool (decide ((x20.1 : Int) < (w .i64 ((w .i64 ((List.length p_s : Int) - (List.length p_substr : Int))) + 1))))) (GL.nil (Yd h (fun hc23 h => ?_) fun hc23 h => ?_))))))
 refine GC.skip (GC.block ?_)
 obtain ⟨J24, h, hR27⟩ := h
 refine GC.join (α := Int) J24 (fun x25 => [(8, .int .i64 x25), (0, sv p_s), (1, sv p_substr), (5, .int .i64 (List.length p_substr : Int)), (6, .int .u8 (c14.toNat : Int)), (7, .int .u8 (c17.toNat : Int)), (9, .int .i64 (w .i64 ((w .i64 ((List.length p_s : Int) - (List.length p_substr : Int))) + 1))), (10, .int .i64 x20.2)]) ?_ ?_
 refine Zo (Zm (Zm (Ys h fun c28 h => ?_)))
 refine Zm (Zi (.bool (((c28.toNat : Int) : Int) != (c14.toNat : Int))) (GL.nil (Yd h (fun hc31 h => ?_) fun hc31 h => ?_)))
 refine Zo (Zm (Zm (Zi (.int .i64 (w .i64 (x20.1 + 1))) (Zm ?_))))
 obtain ⟨h33, h34, h35, t32, h36, h⟩ := h
 refine Zv (OV.sliceStr (s := p_s) h33 h34 h35 h36 rfl rfl rfl rfl rfl rfl) (Zm (Zc h Qb5 ?_))
 rintro _ H39 ⟨r38, rfl, h⟩
 refine Za (GL.nil (GC.seq (Zo (Zm (Zi (.bool (decide ((r38 : Int) < 0))) (GL.nil (Yd h (fun hc40 h => ?_) fun hc40 h => ?_)))))))
 refine Zo (Za (GL.nil ?_))
 exact Y1 I3 ⟨(-1), rfl, h⟩
 refine GC.skip (GC.region (Zm (Zm (Zi (.int .i64 (w .i64 (r38 + 1))) (Zi (.int .i64 (w .i64 (x20.1 + (w .i64 (r38 + 1))))) (Za ?_))))))
 exact Yj I3 (w .i64 (x20.1 + (w .i64 (r38 + 1)))) h
 exact Yk I3 x20.1 h
 intro x25 H26 h
 replace h := hR27 x25 H26 h
 refine GC.seq (Zo (Zm (Zm (Zi (.int .i64 (w .i64 (x25 + 1))) (Ys h fun c41 h => ?_)))))
 refine Zm (Zi (.bool (((c41.toNat : Int) : Int) == (c17.toNat : Int))) (Zm ?_))
 obtain ⟨J45, h, hR46⟩ := h
 refine GL.cut (α := Bool) 9 J45 (fun b44 => [(93, .bool b44), (0, sv p_s), (1, sv p_substr), (5, .int .i64 (List.length p_substr : Int)), (6, .int .u8 (c14.toNat : Int)), (7, .int .u8 (c17.toNat : Int)), (8, .int .i64 x25), (9, .int .i64 (w .i64 ((w .i64 ((List.length p_s : Int) - (List.length p_substr : Int))) + 1))), (10, .int .i64 x20.2)]) ?_ ?_
 rcases h.em with ⟨hc47, h⟩ | ⟨hc47, h⟩
 refine Zu hc47 Ym (Zu hc47 Ym (Zu hc47 Ym (Zu hc47 Ym (Zu hc47 (OV.ibin (v := .int .i64 (w .i64 (x25 + (List.length p_substr : Int)))) rfl rfl rfl) ?_))))
 obtain ⟨h49, h50, h51, t48, h52, h⟩ := h
 refine Zu hc47 (OV.sliceStr (s := p_s) h49 h50 h51 h52 rfl rfl rfl rfl rfl rfl) (Zu hc47 Ym (Zu hc47 (OV.sbin (a := t48) (b := p_substr) (v := .bool (t48 == p_substr)) rfl rfl rfl) (Zt hc47 ?_)))
 exact Yj I3 (t48 == p_substr) h
 refine Zk hc47 (Zk hc47 (Zk hc47 (Zk hc47 (Zk hc47 (Zk hc47 (Zk hc47 (Zk hc47 (Zn hc47 ?_))))))))
 exact Yj I3 false h
 intro b44 H54 h
 replace h := hR46 b44 H54 h
 refine GL.nil (Yd h (fun hc55 h => ?_) fun hc55 h => ?_)
 refine Zo (Zm (Za (GL.nil ?_)))
 exact Y1 I3 ⟨x25, rfl, h⟩
 refine GC.skip (Zo (Zm (Zi (.int .i64 (w .i64 (x25 + 1))) (Za (GL.nil (Zo (Zm (Zi (.int .i64 (w .i64 (x20.2 + 1))) (Za (GL.nil (Zo (Zm (Yl h fun x56 h => ?_)))))))))))))
 refine Zi (.bool (decide (((List.length p_substr : Int) : Int) ≤ x56))) (Zm ?_)
 obtain ⟨J59, h, hR60⟩ := h
 refine GL.cut (α := Bool) 5 J59 (fun b58 => [(107, .bool b58), (0, sv p_s), (1, sv p_substr), (5, .int .i64 (List.length p_substr : Int)), (6, .int .u8 (c14.toNat : Int)), (7, .int .u8 (c17.toNat : Int)), (8, .int .i64 (w .i64 (x25 + 1))), (9, .int .i64 (w .i64 ((w .i64 ((List.length p_s : Int) - (List.length p_substr : Int))) + 1))), (10, .int .i64 (w .i64 (x20.2 + 1)))]) ?_ ?_
 rcases h.em with ⟨hc61, h⟩ | ⟨hc61, h⟩
 refine Zu hc61 Ym (Zu hc61 Ym (GL.call h (Yt hc61) rfl Qgw (vs := [.int .i64 (w .i64 (x25 + 1))]) rfl ?_))
 rintro _ H63 ⟨r62, rfl, h⟩
 refine Zu hc61 (OV.ibin (v := .bool (decide (((w .i64 (x20.2 + 1)) : Int) > r62))) rfl rfl rfl) (Zt hc61 ?_)
 exact Yj I3 (decide (((w .i64 (x20.2 + 1)) : Int) > r62)) h
 refine Zk hc61 (Zk hc61 (Zk hc61 (Zk hc61 (Zn hc61 ?_))))
 exact Yj I3 false h
 intro b58 H64 h
 replace h := hR60 b58 H64 h
 refine GL.nil (Yd h (fun hc65 h => ?_) fun hc65 h => ?_)
 refine GC.seq ?_
 exact GC.never h
 refine Zo (Zm (Yl h fun x72 h => ?_))
 refine Zi (.bool (decide (((List.length p_substr : Int) : Int) > x72))) (Zm (GL.cut0 6 [(127, .bool ((decide (((List.length p_substr : Int) : Int) > x72)) && (decide (((w .i64 (x20.2 + 1)) : Int) ≥ (w .i64 (4 + (sShr .i64 (w .i64 (x25 + 1)) 4))))))), (0, sv p_s), (1, sv p_substr), (5, .int .i64 (List.length p_substr : Int)), (6, .int .u8 (c14.toNat : Int)), (7, .int .u8 (c17.toNat : Int)), (8, .int .i64 (w .i64 (x25 + 1))), (9, .int .i64 (w .i64 ((w .i64 ((List.length p_s : Int) - (List.length p_substr : Int))) + 1))), (10, .int .i64 (w .i64 (x20.2 + 1)))] ?_ ?_))
 rcases Zb (decide (((List.length p_substr : Int) : Int) > x72)) with hc74 | hc74
 refine Zu hc74 Ym (Zu hc74 Ym (Zu hc74 (OV.shr rfl rfl (by decide)) (Zu hc74 (OV.ibin (v := .int .i64 (w .i64 (4 + (sShr .i64 (w .i64 (x25 + 1)) 4)))) rfl rfl rfl) (Zu hc74 (OV.ibin (v := .bool (decide (((w .i64 (x20.2 + 1)) : Int) ≥ (w .i64 (4 + (sShr .i64 (w .i64 (x25 + 1)) 4)))))) rfl rfl rfl) (Zt hc74 ?_)))))
 exact GL.jump0 (fun _ _ h => h) () rfl ⟨(by rw [hc74]; rfl), rfl, rfl, rfl, rfl, rfl, rfl, rfl, rfl, trivial⟩
 refine Zk hc74 (Zk hc74 (Zk hc74 (Zk hc74 (Zk hc74 (Zn hc74 ?_)))))
 exact GL.jump0 (fun _ _ h => h) () rfl ⟨(by rw [hc74]; rfl), rfl, rfl, rfl, rfl, rfl, rfl, rfl, rfl, trivial⟩
 refine Zm (GL.cut0 4 [(132, .bool (((decide (((List.length p_substr : Int) : Int) > x72)) && (decide (((w .i64 (x20.2 + 1)) : Int) ≥ (w .i64 (4 + (sShr .i64 (w .i64 (x25 + 1)) 4)))))) && (decide (((w .i64 (x25 + 1)) : Int) < (w .i64 ((w .i64 ((List.length p_s : Int) - (List.length p_substr : Int))) + 1)))))), (0, sv p_s), (1, sv p_substr), (5, .int .i64 (List.length p_substr : Int)), (6, .int .u8 (c14.toNat : Int)), (7, .int .u8 (c17.toNat : Int)), (8, .int .i64 (w .i64 (x25 + 1))), (9, .int .i64 (w .i64 ((w .i64 ((List.length p_s : Int) - (List.length p_substr : Int))) + 1))), (10, .int .i64 (w .i64 (x20.2 + 1)))] ?_ ?_)
 rcases Zb ((decide (((List.length p_substr : Int) : Int) > x72)) && (decide (((w .i64 (x20.2 + 1)) : Int) ≥ (w .i64 (4 + (sShr .i64 (w .i64 (x25 + 1)) 4)))))) with hc75 | hc75
 refine Zu hc75 Ym (Zu hc75 Ym (Zu hc75 (OV.ibin (v := .bool (decide (((w .i64 (x25 + 1)) : Int) < (w .i64 ((w .i64 ((List.length p_s : Int) - (List.length p_substr : Int))) + 1))))) rfl rfl rfl) (Zt hc75 ?_)))
 exact GL.jump0 (fun _ _ h => h) () rfl ⟨(by rw [hc75]; rfl), rfl, rfl, rfl, rfl, rfl, rfl, rfl, rfl, trivial⟩
 refine Zk hc75 (Zk hc75 (Zk hc75 (Zn hc75 ?_)))
 exact GL.jump0 (fun _ _ h => h) () rfl ⟨(by rw [hc75]; rfl), rfl, rfl, rfl, rfl, rfl, rfl, rfl, rfl, trivial⟩
 refine GL.nil (Yd h (fun hc76 h => ?_) fun hc76 h => ?_)
 refine Zo (Zm (Zm ?_))
 obtain ⟨h78, h79, h80, t77, h81, h⟩ := h
 refine Zv (OV.sliceStr (s := p_s) h78 h79 h80 h81 rfl rfl rfl rfl rfl rfl) (Zm (Zc h Qdd ?_))
 rintro _ H84 ⟨r83, rfl, h⟩
 refine Za (GL.nil (GC.seq (Zo (Zm (Zi (.bool (decide ((r83 : Int) < 0))) (GL.nil (Yd h (fun hc85 h => ?_) fun hc85 h => ?_)))))))
 refine Zo (Za (GL.nil ?_))
 exact Y1 I3 ⟨(-1), rfl, h⟩
 refine GC.skip (Zo (Zm (Zm (Zi (.int .i64 (w .i64 ((w .i64 (x25 + 1)) + r83))) (Za (GL.nil ?_))))))
 exact Y1 I3 ⟨(w .i64 ((w .i64 (x25 + 1)) + r83)), rfl, h⟩
 exact Yk I3 ((w .i64 (x25 + 1)), (w .i64 (x20.2 + 1))) h
 refine GC.exit_to (fun _ _ h => h) (Zo (Za (GL.nil ?_)))
 exact Y1 I3 ⟨(-1), rfl, h⟩
def Qb9 (C : Ctx) (p_s : Sl) (p_f : Value) (K : Int → Heap → Prop) (H : Heap) : Prop :=
 lp (α := Int) 0 H (fun x1 J2 H3 =>
 ift (decide ((x1 : Int) < (Sl.len p_s : Int)))
 (ixa p_s x1 fun p5 =>
 ldS H3 (p5.1, p5.2 + (x1 : Int).toNat * 1) fun x10 =>
 callU Tryz.prog C p_f [sv x10] H3 (fun v H13 => ∃ (r12 : Bool), v = .bool r12 ∧
 ift r12
 (K x1 H13)
 (J2 (w .i64 (x1 + 1)) H13)))
 (K (-1) H3))
theorem QeT (C p_s p_f K H) (h : Qb9 C p_s p_f K H) : Qce C p_s p_f K H := by
 refine Ye Tryz.func220 rfl Tryz.ntmps220 [(0, slv p_s), (1, p_f)] (Zo (Za (GL.nil (GC.seq (Zo (Zm (Zq (Zm (GL.nil (GC.block (Yp h (fun x1 => [(8, .int .i64 x1), (0, slv p_s), (1, p_f), (7, .int .i64 (Sl.len p_s : Int))]) ?_)))))))))))
 intro x1 H3 J2 h
 refine Zo (Zi (.bool (decide ((x1 : Int) < (Sl.len p_s : Int)))) (GL.nil (GC.seq (Yd h (fun u4 h => ?_) fun u4 h => ?_))))
 refine GC.skip (GC.seq (GC.block (Zo (Zm (Za (GL.nil (Zo (Zm (Zm (Zm (Yx h fun p5 h => ?_)))))))))))
 refine Yl h fun x10 h => ?_
 refine GL.callU (xv := p_f) (vs := [sv x10]) h trivial rfl rfl rfl ?_
 rintro _ H13 ⟨r12, rfl, h⟩
 refine GL.nil (Yd h (fun u14 h => ?_) fun u14 h => ?_)
 refine Zo (Zm (Za (GL.nil ?_)))
 exact Y1 I3 ⟨x1, rfl, h⟩
 refine GC.skip_to (fun _ _ h => h) (GC.region (Zi (.int .i64 (w .i64 (x1 + 1))) (Zm ?_)))
 exact Yj I3 (w .i64 (x1 + 1)) h
 refine GC.exit_to (fun _ _ h => h) (Zo (Za (GL.nil ?_)))
 exact Y1 I3 ⟨(-1), rfl, h⟩
def Qb7 (C : Ctx) (p_s : Str) (p_prefix : Str) (K : Bool → Heap → Prop) (H : Heap) : Prop :=
 jn (α := Bool) (fun b1 H11 =>
 K b1 H11)
 (fun J2 => ift (decide (((List.length p_s : Int) : Int) ≥ (List.length p_prefix : Int)))
 (slS p_s 0 (List.length p_prefix : Int) fun t5 =>
 J2 (t5 == p_prefix) H)
 (J2 false H))
theorem QeR (C p_s p_prefix K H) (h : Qb7 C p_s p_prefix K H) : Qaj C p_s p_prefix K H := by
 refine Ye Tryz.func221 rfl Tryz.ntmps221 [(0, sv p_s), (1, sv p_prefix)] (Zo (Za (GL.nil (Zo (Zm (Zr (Zm (Zr (Zi (.bool (decide (((List.length p_s : Int) : Int) ≥ (List.length p_prefix : Int)))) (Zm ?_))))))))))
 obtain ⟨J2, h, hR3⟩ := h
 refine GL.cut (α := Bool) 7 J2 (fun b1 => [(17, .bool b1)]) ?_ ?_
 rcases h.em with ⟨u4, h⟩ | ⟨u4, h⟩
 refine Zu u4 Ym (Zu u4 Ym (Zu u4 (OV.lenStr rfl rfl) ?_))
 obtain ⟨h6, h7, h8, t5, h9, h⟩ := h
 refine Zu u4 (OV.sliceStr (s := p_s) h6 h7 h8 h9 rfl rfl rfl rfl rfl rfl) (Zu u4 Ym (Zu u4 (OV.sbin (a := t5) (b := p_prefix) (v := .bool (t5 == p_prefix)) rfl rfl rfl) (Zt u4 ?_)))
 exact Yj I3 (t5 == p_prefix) h
 refine Zk u4 (Zk u4 (Zk u4 (Zk u4 (Zk u4 (Zk u4 (Zn u4 ?_))))))
 exact Yj I3 false h
 intro b1 H11 h
 replace h := hR3 b1 H11 h
 refine Za (GL.nil ?_)
 exact Y1 I3 ⟨b1, rfl, h⟩
def QaX (C : Ctx) (p_s : Sl) (p_f : Value) (K : Int → Heap → Prop) (H : Heap) : Prop :=
 lp (α := Int) 0 H (fun x1 J2 H3 =>
 ift (decide ((x1 : Int) < (Sl.len p_s : Int)))
 (ixa p_s x1 fun p5 =>
 ldT H3 Qe.c (p5.1, p5.2 + (x1 : Int).toNat * 2) fun x10 =>
 callU Tryz.prog C p_f [.agg (Qe.c x10).toArray] H3 (fun v H13 => ∃ (r12 : Bool), v = .bool r12 ∧
 ift r12
 (K x1 H13)
 (J2 (w .i64 (x1 + 1)) H13)))
 (K (-1) H3))
theorem QcG (C p_s p_f K H) (h : QaX C p_s p_f K H) : Qa1 C p_s p_f K H := by
 refine Ye Tryz.func222 rfl Tryz.ntmps222 [(0, slv p_s), (1, p_f)] (Zo (Za (GL.nil (GC.seq (Zo (Zm (Zq (Zm (GL.nil (GC.block (Yp h (fun x1 => [(8, .int .i64 x1), (0, slv p_s), (1, p_f), (7, .int .i64 (Sl.len p_s : Int))]) ?_)))))))))))
 intro x1 H3 J2 h
 refine Zo (Zi (.bool (decide ((x1 : Int) < (Sl.len p_s : Int)))) (GL.nil (GC.seq (Yd h (fun u4 h => ?_) fun u4 h => ?_))))
 refine GC.skip (GC.seq (GC.block (Zo (Zm (Za (GL.nil (Zo (Zm (Zm (Zm (Yx h fun p5 h => ?_)))))))))))
 obtain ⟨x10, v11, h⟩ := h
 refine Zv (OV.loadT rfl rfl rfl v11) (GL.callU (xv := p_f) (vs := [.agg (Qe.c x10).toArray]) h trivial rfl rfl rfl ?_)
 rintro _ H13 ⟨r12, rfl, h⟩
 refine GL.nil (Yd h (fun u14 h => ?_) fun u14 h => ?_)
 refine Zo (Zm (Za (GL.nil ?_)))
 exact Y1 I3 ⟨x1, rfl, h⟩
 refine GC.skip_to (fun _ _ h => h) (GC.region (Zi (.int .i64 (w .i64 (x1 + 1))) (Zm ?_)))
 exact Yj I3 (w .i64 (x1 + 1)) h
 refine GC.exit_to (fun _ _ h => h) (Zo (Za (GL.nil ?_)))
 exact Y1 I3 ⟨(-1), rfl, h⟩
def QaI (C : Ctx) (p_s : Sl) (p_f : Value) (K : Int → Heap → Prop) (H : Heap) : Prop :=
 lp (α := Int) 0 H (fun x1 J2 H3 =>
 ift (decide ((x1 : Int) < (Sl.len p_s : Int)))
 (ixa p_s x1 fun p5 =>
 ldT H3 Qc.c (p5.1, p5.2 + (x1 : Int).toNat * 3) fun x10 =>
 callU Tryz.prog C p_f [.agg (Qc.c x10).toArray] H3 (fun v H13 => ∃ (r12 : Bool), v = .bool r12 ∧
 ift r12
 (K x1 H13)
 (J2 (w .i64 (x1 + 1)) H13)))
 (K (-1) H3))
theorem Qcn (C p_s p_f K H) (h : QaI C p_s p_f K H) : QaK C p_s p_f K H := by
 refine Ye Tryz.func223 rfl Tryz.ntmps223 [(0, slv p_s), (1, p_f)] (Zo (Za (GL.nil (GC.seq (Zo (Zm (Zq (Zm (GL.nil (GC.block (Yp h (fun x1 => [(8, .int .i64 x1), (0, slv p_s), (1, p_f), (7, .int .i64 (Sl.len p_s : Int))]) ?_)))))))))))
 intro x1 H3 J2 h
 refine Zo (Zi (.bool (decide ((x1 : Int) < (Sl.len p_s : Int)))) (GL.nil (GC.seq (Yd h (fun u4 h => ?_) fun u4 h => ?_))))
 refine GC.skip (GC.seq (GC.block (Zo (Zm (Za (GL.nil (Zo (Zm (Zm (Zm (Yx h fun p5 h => ?_)))))))))))
 obtain ⟨x10, v11, h⟩ := h
 refine Zv (OV.loadT rfl rfl rfl v11) (GL.callU (xv := p_f) (vs := [.agg (Qc.c x10).toArray]) h trivial rfl rfl rfl ?_)
 rintro _ H13 ⟨r12, rfl, h⟩
 refine GL.nil (Yd h (fun u14 h => ?_) fun u14 h => ?_)
 refine Zo (Zm (Za (GL.nil ?_)))
 exact Y1 I3 ⟨x1, rfl, h⟩
 refine GC.skip_to (fun _ _ h => h) (GC.region (Zi (.int .i64 (w .i64 (x1 + 1))) (Zm ?_)))
 exact Yj I3 (w .i64 (x1 + 1)) h
 refine GC.exit_to (fun _ _ h => h) (Zo (Za (GL.nil ?_)))
 exact Y1 I3 ⟨(-1), rfl, h⟩
def Qbn (C : Ctx) (p_s : Sl) (p_f : Value) (K : Bool → Heap → Prop) (H : Heap) : Prop :=
 QbO C p_s p_f (fun r1 H2 =>
 K (decide ((r1 : Int) ≥ 0)) H2) H
theorem Qdq (C p_s p_f K H) (h : Qbn C p_s p_f K H) : Qbq C p_s p_f K H := by
 refine Ye Tryz.func224 rfl Tryz.ntmps224 [(0, slv p_s), (1, p_f)] (Zo (Za (GL.nil (Zo (Zm (Zm (Zc h Qea ?_)))))))
 rintro _ H2 ⟨r1, rfl, h⟩
 refine Zi (.bool (decide ((r1 : Int) ≥ 0))) (Za (GL.nil ?_))
 exact Y1 I3 ⟨(decide ((r1 : Int) ≥ 0)), rfl, h⟩
def Qfm (C : Ctx) (p_x : Qf) (v0 : Nat × Nat) (K : Bool → Heap → Prop) (H : Heap) : Prop :=
 nw (Qf.c p_x) (fun b1 H2 =>
 ldV H2 v0 fun x3 =>
 ldT H2 Qf.c (b1, 0) fun x5 =>
 callU Tryz.prog C x3 [.agg (Qf.c x5).toArray] H2 (fun v H8 => ∃ (r7 : Bool), v = .bool r7 ∧
 K (!r7) H8)) H
theorem QiR (C p_x v0 K H) (h : Qfm C p_x v0 K H) : QfD C p_x v0 K H := by
 refine Ye Tryz.func225 rfl Tryz.ntmps225 [(0, .agg (Qf.c p_x).toArray), (1, pv (some v0))] (Zo (GL.box (v := .agg (Qf.c p_x).toArray) (cs := Qf.c p_x) h trivial rfl rfl rfl ?_))
 intro b1 H2 h
 refine Za (GL.nil (Zo (Yl h fun x3 h => ?_)))
 obtain ⟨x5, hr6, h⟩ := h
 refine Zv (OV.loadT rfl rfl rfl hr6) (GL.callU (xv := x3) (vs := [.agg (Qf.c x5).toArray]) h trivial rfl rfl rfl ?_)
 rintro _ H8 ⟨r7, rfl, h⟩
 refine Zv (OV.not rfl) (Za (GL.nil ?_))
 exact Y1 I3 ⟨(!r7), rfl, h⟩
def QdF (C : Ctx) (p_s : Str) (p_sep : Str) (K : Str → Str → Bool → Heap → Prop) (H : Heap) : Prop :=
 QbI C p_s p_sep (fun r1 H2 =>
 ift (decide ((r1 : Int) ≥ 0))
 (slS p_s 0 r1 fun t4 =>
 slS p_s (w .i64 (r1 + (List.length p_sep : Int))) (List.length p_s : Int) fun t10 =>
 K t4 t10 true H2)
 (K p_s [] false H2)) H
theorem Qgm (C p_s p_sep K H) (h : QdF C p_s p_sep K H) : QdX C p_s p_sep K H := by
 refine Ye Tryz.func226 rfl Tryz.ntmps226 [(0, sv p_s), (1, sv p_sep)] (Zo (Za (Za (Za (GL.nil (GC.seq (Zo (Zm (Zm (Zc h QfX ?_))))))))))
 rintro _ H2 ⟨r1, rfl, h⟩
 refine Za (GL.nil (Zo (Zm (Zi (.bool (decide ((r1 : Int) ≥ 0))) (GL.nil (Yd h (fun u3 h => ?_) fun u3 h => ?_))))))
 refine GC.seq (GC.draw (by kernel_rfl) (by kernel_rfl) (GQ.val trivial rfl (OV.move (v := sv p_s) rfl) (GQ.val trivial rfl (OV.move (v := .int .i64 r1) rfl) ?_)))
 obtain ⟨h5, h6, h7, t4, h8, h⟩ := h
 refine GQ.val trivial rfl (OV.sliceStr (s := p_s) h5 h6 h7 h8 rfl rfl rfl rfl rfl rfl) (GQ.val trivial rfl (OV.move (v := sv p_s) rfl) (GQ.val trivial rfl (OV.move (v := .int .i64 r1) rfl) (GQ.val trivial rfl (OV.move (v := sv p_sep) rfl) (GQ.val trivial rfl (OV.lenStr (s := p_sep) rfl rfl) (GQ.val trivial rfl (OV.ibin (v := .int .i64 (w .i64 (r1 + (List.length p_sep : Int)))) rfl rfl rfl) ?_)))))
 obtain ⟨h11, h12, h13, t10, h14, h⟩ := h
 refine GQ.val trivial rfl (OV.sliceStr (s := p_s) h11 h12 h13 h14 rfl rfl rfl rfl rfl rfl) (GQ.val trivial rfl (OV.assign (v := sv t4) rfl) (GQ.val trivial rfl (OV.assign (v := sv t10) rfl) (GQ.val trivial rfl (OV.assign (v := .bool true) rfl) (GQ.nil (GL.nil ?_)))))
 exact Y3 I3 ⟨t4, t10, true, rfl, h⟩
 refine GC.skip (Zo (Zm (Za (Za (Za (GL.nil ?_))))))
 exact Y3 I3 ⟨p_s, [], false, rfl, h⟩
def QbF (C : Ctx) (p_s : Sl) (p_f : Value) (K : Int → Heap → Prop) (H : Heap) : Prop :=
 lp (α := Int) 0 H (fun x1 J2 H3 =>
 ift (decide ((x1 : Int) < (Sl.len p_s : Int)))
 (ixa p_s x1 fun p5 =>
 ldT H3 Qa.c (p5.1, p5.2 + (x1 : Int).toNat * 9) fun x10 =>
 callU Tryz.prog C p_f [.agg (Qa.c x10).toArray] H3 (fun v H13 => ∃ (r12 : Bool), v = .bool r12 ∧
 ift r12
 (K x1 H13)
 (J2 (w .i64 (x1 + 1)) H13)))
 (K (-1) H3))
theorem Qd0 (C p_s p_f K H) (h : QbF C p_s p_f K H) : QbM C p_s p_f K H := by
 refine Ye Tryz.func227 rfl Tryz.ntmps227 [(0, slv p_s), (1, p_f)] (Zo (Za (GL.nil (GC.seq (Zo (Zm (Zq (Zm (GL.nil (GC.block (Yp h (fun x1 => [(8, .int .i64 x1), (0, slv p_s), (1, p_f), (7, .int .i64 (Sl.len p_s : Int))]) ?_)))))))))))
 intro x1 H3 J2 h
 refine Zo (Zi (.bool (decide ((x1 : Int) < (Sl.len p_s : Int)))) (GL.nil (GC.seq (Yd h (fun u4 h => ?_) fun u4 h => ?_))))
 refine GC.skip (GC.seq (GC.block (Zo (Zm (Za (GL.nil (Zo (Zm (Zm (Zm (Yx h fun p5 h => ?_)))))))))))
 obtain ⟨x10, v11, h⟩ := h
 refine Zv (OV.loadT rfl rfl rfl v11) (GL.callU (xv := p_f) (vs := [.agg (Qa.c x10).toArray]) h trivial rfl rfl rfl ?_)
 rintro _ H13 ⟨r12, rfl, h⟩
 refine GL.nil (Yd h (fun u14 h => ?_) fun u14 h => ?_)
 refine Zo (Zm (Za (GL.nil ?_)))
 exact Y1 I3 ⟨x1, rfl, h⟩
 refine GC.skip_to (fun _ _ h => h) (GC.region (Zi (.int .i64 (w .i64 (x1 + 1))) (Zm ?_)))
 exact Yj I3 (w .i64 (x1 + 1)) h
 refine GC.exit_to (fun _ _ h => h) (Zo (Za (GL.nil ?_)))
 exact Y1 I3 ⟨(-1), rfl, h⟩
def Qky (C : Ctx) (p_v : Qb) (p_most : Int) (K : Int → Heap → Prop) (H : Heap) : Prop :=
 nw (Qb.c p_v) (fun b1 H2 =>
 jn (α := Int) (fun x4 H5 =>
 K (w .i64 (x4 + 1)) H5)
 (fun J3 => ldL H2 ((b1, 0).1, (b1, 0).2 + 3) fun x7 =>
 lp (α := Int × Int) (0, 0) H2 (fun x9 J10 H11 =>
 ift (decide ((x9.2 : Int) < (Sl.len x7 : Int)))
 (ixa x7 x9.2 fun p13 =>
 ldT H11 Qb.c (p13.1, p13.2 + (x9.2 : Int).toNat * 4) fun x18 =>
 nw (Qb.c Qb.zero) (fun b20 H21 =>
 stT (b20, 0) (Qb.c x18) (fun H22 =>
 ift (decide ((x9.1 : Int) ≥ p_most))
 (J3 x9.1 H22)
 (ldT H22 Qb.c (b20, 0) fun x24 =>
 QbJ C x24 (w .i64 (p_most - 1)) (fun r26 H27 =>
 J10 ((if r26 > x9.1 then r26 else x9.1 : Int), (w .i64 (x9.2 + 1))) H27) H22)) H21) H11)
 (J3 x9.1 H11)))) H
theorem QnG (C p_v p_most K H) (h : Qky C p_v p_most K H) : QbJ C p_v p_most K H := by
 refine Ye Tryz.func231 rfl Tryz.ntmps231 [(0, .agg (Qb.c p_v).toArray), (1, .int .i64 p_most)] (Zo (GL.box (v := .agg (Qb.c p_v).toArray) (cs := Qb.c p_v) h trivial rfl rfl rfl ?_))
 intro b1 H2 h
 refine Za (GL.nil (Zo (Za (GL.nil ?_))))
 obtain ⟨J3, h, hR6⟩ := h
 refine GC.join (α := Int) J3 (fun x4 => [(5, .int .i64 x4)]) ?_ ?_
 refine Zo (Zf (Yl h fun x7 h => ?_))
 refine Zq (Zm (GL.nil (GC.block (Yp h (fun x9 => [(5, .int .i64 x9.1), (11, .int .i64 x9.2), (1, .int .i64 p_most), (9, slv x7), (10, .int .i64 (Sl.len x7 : Int))]) ?_))))
 intro x9 H11 J10 h
 refine Zo (Zi (.bool (decide ((x9.2 : Int) < (Sl.len x7 : Int)))) (GL.nil (GC.seq (Yd h (fun u12 h => ?_) fun u12 h => ?_))))
 refine GC.skip (GC.seq (GC.block (Zo (Yx h fun p13 h => ?_))))
 obtain ⟨x18, v19, h⟩ := h
 refine Zv (OV.loadT rfl rfl rfl v19) (GL.alloc (cs := Qb.c Qb.zero) h trivial rfl rfl rfl ?_)
 intro b20 H21 h
 refine GL.storeT (p := (b20, 0)) (vs := Qb.c x18) h trivial rfl rfl rfl rfl ?_
 intro H22 h
 refine GL.nil (GC.seq (Zo (Zm (Zm (Zi (.bool (decide ((x9.1 : Int) ≥ p_most))) (GL.nil (Yd h (fun u23 h => ?_) fun u23 h => ?_)))))))
 exact GC.exit_jump (fun _ _ h => h) x9.1 h ⟨rfl, trivial⟩
 refine GC.skip (GC.region (Zm ?_))
 obtain ⟨x24, v25, h⟩ := h
 refine Zv (OV.loadT rfl rfl rfl v25) (Zm (Zi (.int .i64 (w .i64 (p_most - 1))) (Zc h Qkc ?_)))
 rintro _ H27 ⟨r26, rfl, h⟩
 refine Zv (OV.maxI rfl rfl) (Za (GL.nil_to (fun _ _ h => h) (GC.region (Zi (.int .i64 (w .i64 (x9.2 + 1))) (Zm ?_)))))
 exact Yj I3 ((if r26 > x9.1 then r26 else x9.1 : Int), (w .i64 (x9.2 + 1))) h
 exact GC.exit_jump (fun _ _ h => h) x9.1 h ⟨rfl, trivial⟩
 intro x4 H5 h
 replace h := hR6 x4 H5 h
 refine Zo (Zm (Zi (.int .i64 (w .i64 (x4 + 1))) (Za (GL.nil ?_))))
 exact Y1 I3 ⟨(w .i64 (x4 + 1)), rfl, h⟩
def Qg9 (C : Ctx) (p_v : Qb) (K : Bool → Bool → Heap → Prop) (H : Heap) : Prop :=
 nw (Qb.c p_v) (fun b1 H2 =>
 ldI H2 .i64 ((b1, 0).1, (b1, 0).2 + 1) fun x3 =>
 jn (α := Bool) (fun b5 H11 =>
 jn (α := Bool) (fun b12 H18 =>
 jn (α := Bool × Bool) (fun x20 H21 =>
 ldL H21 ((b1, 0).1, (b1, 0).2 + 3) fun x149 =>
 lp (α := Bool × Bool × Int) (x20.1, x20.2, 0) H21 (fun x151 J152 H153 =>
 ift (decide ((x151.2.2 : Int) < (Sl.len x149 : Int)))
 (ixa x149 x151.2.2 fun p155 =>
 ldT H153 Qb.c (p155.1, p155.2 + (x151.2.2 : Int).toNat * 4) fun x160 =>
 nw (Qb.c Qb.zero) (fun b162 H163 =>
 stT (b162, 0) (Qb.c x160) (fun H164 =>
 ldT H164 Qb.c (b162, 0) fun x165 =>
 Qap C x165 (fun r167 r168 H169 =>
 J152 ((x151.1 && r167), (x151.2.1 && r168), (w .i64 (x151.2.2 + 1))) H169) H164) H163) H153)
 (K x151.1 x151.2.1 H153)))
 (fun J19 => ldI H18 .u8 ((b1, 0).1, (b1, 0).2 + 0) fun x23 =>
 ift ((x23 : Int) == 1)
 (ldI H18 .i64 ((b1, 0).1, (b1, 0).2 + 1) fun x26 =>
 jn (α := Bool) (fun b28 H34 =>
 jn (α := Bool) (fun b35 H41 =>
 jn (α := Bool) (fun b42 H48 =>
 J19 (b42, true) H48)
 (fun J43 => ift b35
 (ldL H41 ((b1, 0).1, (b1, 0).2 + 3) fun x46 =>
 J43 (((Sl.len x46 : Int) : Int) == 0) H41)
 (J43 false H41)))
 (fun J36 => ift b28
 (ldS H34 ((b1, 0).1, (b1, 0).2 + 2) fun x39 =>
 J36 (x39 == ([] : Str)) H34)
 (J36 false H34)))
 (fun J29 => ift ((x26 : Int) == 0)
 (J29 true H18)
 (ldI H18 .i64 ((b1, 0).1, (b1, 0).2 + 1) fun x32 =>
 J29 ((x32 : Int) == 1) H18)))
 (ift ((x23 : Int) == 2)
 (ldS H18 ((b1, 0).1, (b1, 0).2 + 2) fun x50 =>
 jn (α := Bool) (fun b52 H58 =>
 J19 (b52, true) H58)
 (fun J53 => ift (x50 == ([] : Str))
 (ldL H18 ((b1, 0).1, (b1, 0).2 + 3) fun x56 =>
 J53 (((Sl.len x56 : Int) : Int) == 0) H18)
 (J53 false H18)))
 (ift ((x23 : Int) == 3)
 (ldS H18 ((b1, 0).1, (b1, 0).2 + 2) fun x60 =>
 Qhl C x60 (fun r62 r63 H64 =>
 jn (α := Bool) (fun b65 H71 =>
 jn (α := Bool) (fun b72 H78 =>
 J19 (b72, (decide ((r62 : Int) ≤ 200))) H78)
 (fun J73 => ift b65
 (ldL H71 ((b1, 0).1, (b1, 0).2 + 3) fun x76 =>
 J73 (((Sl.len x76 : Int) : Int) == 0) H71)
 (J73 false H71)))
 (fun J66 => ift r63
 (ldI H64 .i64 ((b1, 0).1, (b1, 0).2 + 1) fun x69 =>
 J66 ((x69 : Int) == 0) H64)
 (J66 false H64))) H18)
 (ift ((x23 : Int) == 4)
 (jn (α := Bool × Bool) (fun x81 H82 =>
 J19 (x81.1, x81.2) H82)
 (fun J80 => dr H18 fun Hs84 =>
 ldI Hs84 .i64 ((b1, 0).1, (b1, 0).2 + 1) fun x86 =>
 ldS Hs84 ((b1, 0).1, (b1, 0).2 + 2) fun x88 =>
 ift ((x86 : Int) == 0)
 (ldL Hs84 ((b1, 0).1, (b1, 0).2 + 3) fun x91 =>
 J80 ((((Sl.len x91 : Int) : Int) == 0), (decide (((List.length x88 : Int) : Int) ≤ 4096))) H18)
 (J80 (false, (decide (((List.length x88 : Int) : Int) ≤ 4096))) H18)))
 (ift ((x23 : Int) == 5)
 (jn (α := Bool × Bool) (fun x95 H96 =>
 J19 (x95.1, x95.2) H96)
 (fun J94 => dr H18 fun Hs98 =>
 ldI Hs98 .i64 ((b1, 0).1, (b1, 0).2 + 1) fun x100 =>
 ldL Hs98 ((b1, 0).1, (b1, 0).2 + 3) fun x102 =>
 ift ((x100 : Int) == 0)
 (ldS Hs98 ((b1, 0).1, (b1, 0).2 + 2) fun x105 =>
 ift (x105 == ([] : Str))
 (ldL Hs98 ((b1, 0).1, (b1, 0).2 + 3) fun x108 =>
 J94 ((((Sl.len x108 : Int) : Int) != 1), (decide (((Sl.len x102 : Int) : Int) ≤ 16))) H18)
 (J94 (false, (decide (((Sl.len x102 : Int) : Int) ≤ 16))) H18))
 (J94 (false, (decide (((Sl.len x102 : Int) : Int) ≤ 16))) H18)))
 (ift ((x23 : Int) == 6)
 (ldS H18 ((b1, 0).1, (b1, 0).2 + 2) fun x111 =>
 Qgh C x111 [46] (fun r113 r114 r115 H116 =>
 jn (α := Bool × Bool) (fun x118 H119 =>
 J19 (x118.1, x118.2) H119)
 (fun J117 => dr H116 fun Hs121 =>
 ldI Hs121 .i64 ((b1, 0).1, (b1, 0).2 + 1) fun x123 =>
 ldL Hs121 ((b1, 0).1, (b1, 0).2 + 3) fun x125 =>
 ift ((x123 : Int) == 0)
 (QeA C r113 (fun r129 H130 =>
 Heap.le Hs121 H130 ∧
 ift r129
 (ift r115
 (QeA C r114 (fun r134 H135 =>
 Heap.le Hs121 H135 ∧
 ift r134
 (J117 (true, (decide (((Sl.len x125 : Int) : Int) ≤ 8))) H135)
 (ift (!r115)
 (ldS Hs121 ((b1, 0).1, (b1, 0).2 + 2) fun x138 =>
 ift (!(x138 == ([116, 114, 117, 101] : Str)))
 (ldS Hs121 ((b1, 0).1, (b1, 0).2 + 2) fun x141 =>
 J117 ((!(x141 == ([102, 97, 108, 115, 101] : Str))), (decide (((Sl.len x125 : Int) : Int) ≤ 8))) H135)
 (J117 (false, (decide (((Sl.len x125 : Int) : Int) ≤ 8))) H135))
 (J117 (false, (decide (((Sl.len x125 : Int) : Int) ≤ 8))) H135))) H130)
 (ift (!r115)
 (ldS Hs121 ((b1, 0).1, (b1, 0).2 + 2) fun x144 =>
 ift (!(x144 == ([116, 114, 117, 101] : Str)))
 (ldS Hs121 ((b1, 0).1, (b1, 0).2 + 2) fun x147 =>
 J117 ((!(x147 == ([102, 97, 108, 115, 101] : Str))), (decide (((Sl.len x125 : Int) : Int) ≤ 8))) H130)
 (J117 (false, (decide (((Sl.len x125 : Int) : Int) ≤ 8))) H130))
 (J117 (false, (decide (((Sl.len x125 : Int) : Int) ≤ 8))) H130)))
 (J117 (false, (decide (((Sl.len x125 : Int) : Int) ≤ 8))) H130)) H116)
 (J117 (false, (decide (((Sl.len x125 : Int) : Int) ≤ 8))) H116))) H18)
 (J19 (false, true) H18))))))))
 (fun J13 => ift b5
 (ldL H11 ((b1, 0).1, (b1, 0).2 + 3) fun x16 =>
 J13 (((Sl.len x16 : Int) : Int) == 0) H11)
 (J13 false H11)))
 (fun J6 => ift ((x3 : Int) == 0)
 (ldS H2 ((b1, 0).1, (b1, 0).2 + 2) fun x9 =>
 J6 (x9 == ([] : Str)) H2)
 (J6 false H2))) H
theorem QkY (C p_v K H) (h : Qg9 C p_v K H) : Qap C p_v K H := by
 refine Ye Tryz.func232 rfl Tryz.ntmps232 [(0, .agg (Qb.c p_v).toArray)] (Zo (GL.box (v := .agg (Qb.c p_v).toArray) (cs := Qb.c p_v) h trivial rfl rfl rfl ?_))
 intro b1 H2 h
 refine Za (Za (GL.nil (Zo (Zf (Yl h fun x3 h => ?_)))))
 refine Zi (.bool ((x3 : Int) == 0)) (Zm ?_)
 obtain ⟨J6, h, hR7⟩ := h
 refine GL.cut (α := Bool) 4 J6 (fun b5 => [(20, .bool b5), (1, pv (some (b1, 0)))]) ?_ ?_
 rcases h.em with ⟨u8, h⟩ | ⟨u8, h⟩
 refine Zu u8 Yf ?_
 obtain ⟨x9, v10, h⟩ := h
 refine Zu u8 (Yo v10) (Zu u8 (OV.sbin (a := x9) (b := ([] : Str)) (v := .bool (x9 == ([] : Str))) rfl rfl rfl) (Zt u8 ?_))
 exact Yj I3 (x9 == ([] : Str)) h
 refine Zk u8 (Zk u8 (Zk u8 (Zn u8 ?_)))
 exact Yj I3 false h
 intro b5 H11 h
 replace h := hR7 b5 H11 h
 refine Zm ?_
 obtain ⟨J13, h, hR14⟩ := h
 refine GL.cut (α := Bool) 5 J13 (fun b12 => [(26, .bool b12), (1, pv (some (b1, 0)))]) ?_ ?_
 rcases h.em with ⟨u15, h⟩ | ⟨u15, h⟩
 refine Zu u15 Yf ?_
 obtain ⟨x16, v17, h⟩ := h
 refine Zu u15 (Yo v17) (Zu u15 (OV.lenSl rfl rfl) (Zu u15 (OV.ibin (v := .bool (((Sl.len x16 : Int) : Int) == 0)) rfl rfl rfl) (Zt u15 ?_)))
 exact Yj I3 (((Sl.len x16 : Int) : Int) == 0) h
 refine Zk u15 (Zk u15 (Zk u15 (Zk u15 (Zn u15 ?_))))
 exact Yj I3 false h
 intro b12 H18 h
 replace h := hR14 b12 H18 h
 refine Za (Za (GL.nil ?_))
 obtain ⟨J19, h, hR22⟩ := h
 refine GC.join (α := Bool × Bool) J19 (fun x20 => [(2, .bool x20.1), (3, .bool x20.2), (1, pv (some (b1, 0)))]) ?_ ?_
 refine Zo (Zf (Yl h fun x23 h => ?_))
 refine GL.nil (GC.block (Zo (Zi (.bool ((x23 : Int) == 1)) (Za (GL.nil (Yd h (fun u25 h => ?_) fun u25 h => ?_))))))
 refine GC.region (Zf (Yl h fun x26 h => ?_))
 refine Zi (.bool ((x26 : Int) == 0)) (Zm ?_)
 obtain ⟨J29, h, hR30⟩ := h
 refine GL.cut (α := Bool) 4 J29 (fun b28 => [(38, .bool b28), (1, pv (some (b1, 0))), (3, .bool true)]) ?_ ?_
 rcases h.em with ⟨u31, h⟩ | ⟨u31, h⟩
 refine Zk u31 (Zk u31 (Zk u31 (Zt u31 ?_)))
 exact Yj I3 true h
 refine Zu u31 Yf ?_
 obtain ⟨x32, v33, h⟩ := h
 refine Zu u31 (Yo v33) (Zu u31 (OV.ibin (v := .bool ((x32 : Int) == 1)) rfl rfl rfl) (Zn u31 ?_))
 exact Yj I3 ((x32 : Int) == 1) h
 intro b28 H34 h
 replace h := hR30 b28 H34 h
 refine Zm ?_
 obtain ⟨J36, h, hR37⟩ := h
 refine GL.cut (α := Bool) 4 J36 (fun b35 => [(43, .bool b35), (1, pv (some (b1, 0))), (3, .bool true)]) ?_ ?_
 rcases h.em with ⟨u38, h⟩ | ⟨u38, h⟩
 refine Zu u38 Yf ?_
 obtain ⟨x39, v40, h⟩ := h
 refine Zu u38 (Yo v40) (Zu u38 (OV.sbin (a := x39) (b := ([] : Str)) (v := .bool (x39 == ([] : Str))) rfl rfl rfl) (Zt u38 ?_))
 exact Yj I3 (x39 == ([] : Str)) h
 refine Zk u38 (Zk u38 (Zk u38 (Zn u38 ?_)))
 exact Yj I3 false h
 intro b35 H41 h
 replace h := hR37 b35 H41 h
 refine Zm ?_
 obtain ⟨J43, h, hR44⟩ := h
 refine GL.cut (α := Bool) 5 J43 (fun b42 => [(49, .bool b42), (1, pv (some (b1, 0))), (3, .bool true)]) ?_ ?_
 rcases h.em with ⟨u45, h⟩ | ⟨u45, h⟩
 refine Zu u45 Yf ?_
 obtain ⟨x46, v47, h⟩ := h
 refine Zu u45 (Yo v47) (Zu u45 (OV.lenSl rfl rfl) (Zu u45 (OV.ibin (v := .bool (((Sl.len x46 : Int) : Int) == 0)) rfl rfl rfl) (Zt u45 ?_)))
 exact Yj I3 (((Sl.len x46 : Int) : Int) == 0) h
 refine Zk u45 (Zk u45 (Zk u45 (Zk u45 (Zn u45 ?_))))
 exact Yj I3 false h
 intro b42 H48 h
 replace h := hR44 b42 H48 h
 refine Za ?_
 exact Yj I3 (b42, true) h
 refine Zo (Zi (.bool ((x23 : Int) == 2)) (Za (GL.nil (Yd h (fun u49 h => ?_) fun u49 h => ?_))))
 refine GC.region (Zf (Yl h fun x50 h => ?_))
 refine Zv (OV.sbin (a := x50) (b := ([] : Str)) (v := .bool (x50 == ([] : Str))) rfl rfl rfl) (Zm ?_)
 obtain ⟨J53, h, hR54⟩ := h
 refine GL.cut (α := Bool) 5 J53 (fun b52 => [(60, .bool b52), (1, pv (some (b1, 0))), (3, .bool true)]) ?_ ?_
 rcases h.em with ⟨u55, h⟩ | ⟨u55, h⟩
 refine Zu u55 Yf ?_
 obtain ⟨x56, v57, h⟩ := h
 refine Zu u55 (Yo v57) (Zu u55 (OV.lenSl rfl rfl) (Zu u55 (OV.ibin (v := .bool (((Sl.len x56 : Int) : Int) == 0)) rfl rfl rfl) (Zt u55 ?_)))
 exact Yj I3 (((Sl.len x56 : Int) : Int) == 0) h
 refine Zk u55 (Zk u55 (Zk u55 (Zk u55 (Zn u55 ?_))))
 exact Yj I3 false h
 intro b52 H58 h
 replace h := hR54 b52 H58 h
 refine Za ?_
 exact Yj I3 (b52, true) h
 refine Zo (Zi (.bool ((x23 : Int) == 3)) (Za (GL.nil (Yd h (fun u59 h => ?_) fun u59 h => ?_))))
 refine Zo (Zf (Yl h fun x60 h => ?_))
 refine Zc h Qnb ?_
 rintro _ H64 ⟨r62, r63, rfl, h⟩
 refine Zm (Yv (.int .i64 r62) rfl rfl (Yv (.bool r63) rfl rfl (Za (Za (GL.nil (GC.region (Zm (Zm ?_))))))))
 obtain ⟨J66, h, hR67⟩ := h
 refine GL.cut (α := Bool) 4 J66 (fun b65 => [(74, .bool b65), (1, pv (some (b1, 0))), (4, .int .i64 r62)]) ?_ ?_
 rcases h.em with ⟨u68, h⟩ | ⟨u68, h⟩
 refine Zu u68 Yf ?_
 obtain ⟨x69, v70, h⟩ := h
 refine Zu u68 (Yo v70) (Zu u68 (OV.ibin (v := .bool ((x69 : Int) == 0)) rfl rfl rfl) (Zt u68 ?_))
 exact Yj I3 ((x69 : Int) == 0) h
 refine Zk u68 (Zk u68 (Zk u68 (Zn u68 ?_)))
 exact Yj I3 false h
 intro b65 H71 h
 replace h := hR67 b65 H71 h
 refine Zm ?_
 obtain ⟨J73, h, hR74⟩ := h
 refine GL.cut (α := Bool) 5 J73 (fun b72 => [(80, .bool b72), (1, pv (some (b1, 0))), (4, .int .i64 r62)]) ?_ ?_
 rcases h.em with ⟨u75, h⟩ | ⟨u75, h⟩
 refine Zu u75 Yf ?_
 obtain ⟨x76, v77, h⟩ := h
 refine Zu u75 (Yo v77) (Zu u75 (OV.lenSl rfl rfl) (Zu u75 (OV.ibin (v := .bool (((Sl.len x76 : Int) : Int) == 0)) rfl rfl rfl) (Zt u75 ?_)))
 exact Yj I3 (((Sl.len x76 : Int) : Int) == 0) h
 refine Zk u75 (Zk u75 (Zk u75 (Zk u75 (Zn u75 ?_))))
 exact Yj I3 false h
 intro b72 H78 h
 replace h := hR74 b72 H78 h
 refine Zm (Zi (.bool (decide ((r62 : Int) ≤ 200))) (Za (Za ?_)))
 exact Yj I3 (b72, (decide ((r62 : Int) ≤ 200))) h
 refine Zo (Zi (.bool ((x23 : Int) == 4)) (Za (GL.nil (Yd h (fun u79 h => ?_) fun u79 h => ?_))))
 obtain ⟨J80, h, hR83⟩ := h
 refine GC.meet (α := Bool × Bool) J80 (fun x81 => [(2, .bool x81.1), (3, .bool x81.2), (1, pv (some (b1, 0)))]) ?_ ?_
 obtain ⟨Hs84, hle85, h⟩ := h
 refine GC.any (Hs := Hs84) (by kernel_rfl) hle85 (Zp 0 rfl Yf ?_)
 obtain ⟨x86, v87, h⟩ := h
 refine Zp 1 rfl (Yo v87) (Zp 2 rfl (OV.ibin (v := .bool ((x86 : Int) == 0)) rfl rfl rfl) (Zp 3 rfl Ym (Zp 9 rfl Yf ?_)))
 obtain ⟨x88, v89, h⟩ := h
 refine Zp 10 rfl (Yo v89) (Zp 11 rfl (OV.lenStr rfl rfl) (Zp 12 rfl (OV.ibin (v := .bool (decide (((List.length x88 : Int) : Int) ≤ 4096))) rfl rfl rfl) ?_))
 rcases h.em with ⟨u90, h⟩ | ⟨u90, h⟩
 refine Zg 4 rfl (Yt u90) Yf ?_
 obtain ⟨x91, v92, h⟩ := h
 refine Zg 5 rfl (Yt u90) (Yo v92) (Zg 6 rfl (Yt u90) (OV.lenSl rfl rfl) (Zg 7 rfl (Yt u90) (OV.ibin (v := .bool (((Sl.len x91 : Int) : Int) == 0)) rfl rfl rfl) (Zp 8 rfl (OV.pickT rfl u90 rfl) (Zp 13 rfl Ya (Zp 14 rfl Ya (GA.done (by kernel_rfl) ?_))))))
 exact Yj I3 ((((Sl.len x91 : Int) : Int) == 0), (decide (((List.length x88 : Int) : Int) ≤ 4096))) h
 refine Zj 4 rfl (Yw u90) (Zj 5 rfl (Yw u90) (Zj 6 rfl (Yw u90) (Zj 7 rfl (Yw u90) (Zp 8 rfl (OV.pickF rfl u90 rfl) (Zp 13 rfl Ya (Zp 14 rfl Ya (GA.done (by kernel_rfl) ?_)))))))
 exact Yj I3 (false, (decide (((List.length x88 : Int) : Int) ≤ 4096))) h
 intro x81 H82 h
 replace h := hR83 x81 H82 h
 exact Yj I3 (x81.1, x81.2) h
 refine Zo (Zi (.bool ((x23 : Int) == 5)) (Za (GL.nil (Yd h (fun u93 h => ?_) fun u93 h => ?_))))
 obtain ⟨J94, h, hR97⟩ := h
 refine GC.meet (α := Bool × Bool) J94 (fun x95 => [(2, .bool x95.1), (3, .bool x95.2), (1, pv (some (b1, 0)))]) ?_ ?_
 obtain ⟨Hs98, hle99, h⟩ := h
 refine GC.any (Hs := Hs98) (by kernel_rfl) hle99 (Zp 0 rfl Yf ?_)
 obtain ⟨x100, v101, h⟩ := h
 refine Zp 1 rfl (Yo v101) (Zp 2 rfl (OV.ibin (v := .bool ((x100 : Int) == 0)) rfl rfl rfl) (Zp 3 rfl Ym (Zp 14 rfl Yf ?_)))
 obtain ⟨x102, v103, h⟩ := h
 refine Zp 15 rfl (Yo v103) (Zp 16 rfl (OV.lenSl rfl rfl) (Zp 17 rfl (OV.ibin (v := .bool (decide (((Sl.len x102 : Int) : Int) ≤ 16))) rfl rfl rfl) ?_))
 rcases h.em with ⟨u104, h⟩ | ⟨u104, h⟩
 refine Zg 4 rfl (Yt u104) Yf ?_
 obtain ⟨x105, v106, h⟩ := h
 refine Zg 5 rfl (Yt u104) (Yo v106) (Zg 6 rfl (Yt u104) (OV.sbin (a := x105) (b := ([] : Str)) (v := .bool (x105 == ([] : Str))) rfl rfl rfl) (Zp 7 rfl (OV.pickT rfl u104 rfl) (Zp 8 rfl Ym ?_)))
 rcases h.em with ⟨u107, h⟩ | ⟨u107, h⟩
 refine Zg 9 rfl (Yt u107) Yf ?_
 obtain ⟨x108, v109, h⟩ := h
 refine Zg 10 rfl (Yt u107) (Yo v109) (Zg 11 rfl (Yt u107) (OV.lenSl rfl rfl) (Zg 12 rfl (Yt u107) (OV.ibin (v := .bool (((Sl.len x108 : Int) : Int) != 1)) rfl rfl rfl) (Zp 13 rfl (OV.pickT rfl u107 rfl) (Zp 18 rfl Ya (Zp 19 rfl Ya (GA.done (by kernel_rfl) ?_))))))
 exact Yj I3 ((((Sl.len x108 : Int) : Int) != 1), (decide (((Sl.len x102 : Int) : Int) ≤ 16))) h
 refine Zj 9 rfl (Yw u107) (Zj 10 rfl (Yw u107) (Zj 11 rfl (Yw u107) (Zj 12 rfl (Yw u107) (Zp 13 rfl (OV.pickF rfl u107 rfl) (Zp 18 rfl Ya (Zp 19 rfl Ya (GA.done (by kernel_rfl) ?_)))))))
 exact Yj I3 (false, (decide (((Sl.len x102 : Int) : Int) ≤ 16))) h
 refine Zj 4 rfl (Yw u104) (Zj 5 rfl (Yw u104) (Zj 6 rfl (Yw u104) (Zp 7 rfl (OV.pickF rfl u104 rfl) (Zp 8 rfl Ym (Zj 9 rfl (Yw rfl) (Zj 10 rfl (Yw rfl) (Zj 11 rfl (Yw rfl) (Zj 12 rfl (Yw rfl) (Zp 13 rfl (OV.pickF rfl rfl rfl) (Zp 18 rfl Ya (Zp 19 rfl Ya (GA.done (by kernel_rfl) ?_))))))))))))
 exact Yj I3 (false, (decide (((Sl.len x102 : Int) : Int) ≤ 16))) h
 intro x95 H96 h
 replace h := hR97 x95 H96 h
 exact Yj I3 (x95.1, x95.2) h
 refine Zo (Zi (.bool ((x23 : Int) == 6)) (Za (GL.nil (Yd h (fun u110 h => ?_) fun u110 h => ?_))))
 refine Zo (Zf (Yl h fun x111 h => ?_))
 refine Zc h Qj8 ?_
 rintro _ H116 ⟨r113, r114, r115, rfl, h⟩
 refine Zm (Yv (sv r113) rfl rfl (Yv (sv r114) rfl rfl (Yv (.bool r115) rfl rfl (Za (Za (Za (GL.nil ?_)))))))
 obtain ⟨J117, h, hR120⟩ := h
 refine GC.meet (α := Bool × Bool) J117 (fun x118 => [(2, .bool x118.1), (3, .bool x118.2), (1, pv (some (b1, 0)))]) ?_ ?_
 obtain ⟨Hs121, hle122, h⟩ := h
 refine GC.any (Hs := Hs121) (by kernel_rfl) hle122 (Zp 0 rfl Yf ?_)
 obtain ⟨x123, v124, h⟩ := h
 refine Zp 1 rfl (Yo v124) (Zp 2 rfl (OV.ibin (v := .bool ((x123 : Int) == 0)) rfl rfl rfl) (Zp 3 rfl Ym (Zp 28 rfl Yf ?_)))
 obtain ⟨x125, v126, h⟩ := h
 refine Zp 29 rfl (Yo v126) (Zp 30 rfl (OV.lenSl rfl rfl) (Zp 31 rfl (OV.ibin (v := .bool (decide (((Sl.len x125 : Int) : Int) ≤ 8))) rfl rfl rfl) ?_))
 rcases h.em with ⟨u127, h⟩ | ⟨u127, h⟩
 refine Zg 4 rfl (Yt u127) Ym (GA.eff 5 rfl (by kernel_rfl) (GL.call h (Yt u127) rfl Qlh (vs := [sv r113]) rfl ?_))
 rintro _ H130 ⟨r129, rfl, h⟩
 obtain ⟨hle128, h⟩ := h
 refine GA.back hle128 (Zp 6 rfl (OV.pickT rfl u127 rfl) (Zp 7 rfl Ym ?_))
 rcases h.em with ⟨u131, h⟩ | ⟨u131, h⟩
 refine Zg 8 rfl (Yt u131) Ym (Zg 9 rfl (Yt u131) Ym ?_)
 rcases h.em with ⟨u132, h⟩ | ⟨u132, h⟩
 refine Zg 10 rfl (Yt u132) Ym (GA.eff 11 rfl (by kernel_rfl) (GL.call h (Yt u132) rfl Qlh (vs := [sv r114]) rfl ?_))
 rintro _ H135 ⟨r134, rfl, h⟩
 obtain ⟨hle133, h⟩ := h
 refine GA.back hle133 (Zg 12 rfl (Yt u131) (OV.pickT rfl u132 rfl) (Zg 13 rfl (Yt u131) Ym ?_))
 rcases h.em with ⟨u136, h⟩ | ⟨u136, h⟩
 refine Zj 14 rfl (Yw u136) (Zj 15 rfl (Yw u136) (Zj 16 rfl (Yw u136) (Zj 17 rfl ⟨_, rfl, .inr rfl⟩ (Zj 18 rfl ⟨_, rfl, .inr rfl⟩ (Zj 19 rfl ⟨_, rfl, .inr rfl⟩ (Zj 20 rfl (Yw u136) (Zj 21 rfl (Yw u136) (Zj 22 rfl ⟨_, rfl, .inr rfl⟩ (Zj 23 rfl ⟨_, rfl, .inr rfl⟩ (Zj 24 rfl ⟨_, rfl, .inr rfl⟩ (Zj 25 rfl (Yw u136) (Zg 26 rfl (Yt u131) (OV.pickT rfl u136 rfl) (Zp 27 rfl (OV.pickT rfl u131 rfl) (Zp 32 rfl Ya (Zp 33 rfl Ya (GA.done (by kernel_rfl) ?_))))))))))))))))
 exact Yj I3 (true, (decide (((Sl.len x125 : Int) : Int) ≤ 8))) h
 refine Zg 14 rfl (Yt u136) Ym (Zg 15 rfl (Yt u136) (OV.not rfl) (Zg 16 rfl (Yt u136) Ym ?_))
 rcases h.em with ⟨u137, h⟩ | ⟨u137, h⟩
 refine Zg 17 rfl (Yt u137) Yf ?_
 obtain ⟨x138, v139, h⟩ := h
 refine Zg 18 rfl (Yt u137) (Yo v139) (Zg 19 rfl (Yt u137) (OV.sbin (a := x138) (b := ([116, 114, 117, 101] : Str)) (v := .bool (!(x138 == ([116, 114, 117, 101] : Str)))) rfl rfl rfl) (Zg 20 rfl (Yt u136) (OV.pickT rfl u137 rfl) (Zg 21 rfl (Yt u136) Ym ?_)))
 rcases h.em with ⟨u140, h⟩ | ⟨u140, h⟩
 refine Zg 22 rfl (Yt u140) Yf ?_
 obtain ⟨x141, v142, h⟩ := h
 refine Zg 23 rfl (Yt u140) (Yo v142) (Zg 24 rfl (Yt u140) (OV.sbin (a := x141) (b := ([102, 97, 108, 115, 101] : Str)) (v := .bool (!(x141 == ([102, 97, 108, 115, 101] : Str)))) rfl rfl rfl) (Zg 25 rfl (Yt u136) (OV.pickT rfl u140 rfl) (Zg 26 rfl (Yt u131) (OV.pickF rfl u136 rfl) (Zp 27 rfl (OV.pickT rfl u131 rfl) (Zp 32 rfl Ya (Zp 33 rfl Ya (GA.done (by kernel_rfl) ?_)))))))
 exact Yj I3 ((!(x141 == ([102, 97, 108, 115, 101] : Str))), (decide (((Sl.len x125 : Int) : Int) ≤ 8))) h
 refine Zj 22 rfl (Yw u140) (Zj 23 rfl (Yw u140) (Zj 24 rfl (Yw u140) (Zg 25 rfl (Yt u136) (OV.pickF rfl u140 rfl) (Zg 26 rfl (Yt u131) (OV.pickF rfl u136 rfl) (Zp 27 rfl (OV.pickT rfl u131 rfl) (Zp 32 rfl Ya (Zp 33 rfl Ya (GA.done (by kernel_rfl) ?_))))))))
 exact Yj I3 (false, (decide (((Sl.len x125 : Int) : Int) ≤ 8))) h
 refine Zj 17 rfl (Yw u137) (Zj 18 rfl (Yw u137) (Zj 19 rfl (Yw u137) (Zg 20 rfl (Yt u136) (OV.pickF rfl u137 rfl) (Zg 21 rfl (Yt u136) Ym (Zj 22 rfl (Yw rfl) (Zj 23 rfl (Yw rfl) (Zj 24 rfl (Yw rfl) (Zg 25 rfl (Yt u136) (OV.pickF rfl rfl rfl) (Zg 26 rfl (Yt u131) (OV.pickF rfl u136 rfl) (Zp 27 rfl (OV.pickT rfl u131 rfl) (Zp 32 rfl Ya (Zp 33 rfl Ya (GA.done (by kernel_rfl) ?_)))))))))))))
 exact Yj I3 (false, (decide (((Sl.len x125 : Int) : Int) ≤ 8))) h
 refine Zj 10 rfl (Yw u132) (Zj 11 rfl (Yw u132) (Zg 12 rfl (Yt u131) (OV.pickF rfl u132 rfl) (Zg 13 rfl (Yt u131) Ym (Zg 14 rfl (Yt rfl) Ym (Zg 15 rfl (Yt rfl) (OV.not rfl) (Zg 16 rfl (Yt rfl) Ym ?_))))))
 rcases h.em with ⟨u143, h⟩ | ⟨u143, h⟩
 refine Zg 17 rfl (Yt u143) Yf ?_
 obtain ⟨x144, v145, h⟩ := h
 refine Zg 18 rfl (Yt u143) (Yo v145) (Zg 19 rfl (Yt u143) (OV.sbin (a := x144) (b := ([116, 114, 117, 101] : Str)) (v := .bool (!(x144 == ([116, 114, 117, 101] : Str)))) rfl rfl rfl) (Zg 20 rfl (Yt rfl) (OV.pickT rfl u143 rfl) (Zg 21 rfl (Yt rfl) Ym ?_)))
 rcases h.em with ⟨u146, h⟩ | ⟨u146, h⟩
 refine Zg 22 rfl (Yt u146) Yf ?_
 obtain ⟨x147, v148, h⟩ := h
 refine Zg 23 rfl (Yt u146) (Yo v148) (Zg 24 rfl (Yt u146) (OV.sbin (a := x147) (b := ([102, 97, 108, 115, 101] : Str)) (v := .bool (!(x147 == ([102, 97, 108, 115, 101] : Str)))) rfl rfl rfl) (Zg 25 rfl (Yt rfl) (OV.pickT rfl u146 rfl) (Zg 26 rfl (Yt u131) (OV.pickF rfl rfl rfl) (Zp 27 rfl (OV.pickT rfl u131 rfl) (Zp 32 rfl Ya (Zp 33 rfl Ya (GA.done (by kernel_rfl) ?_)))))))
 exact Yj I3 ((!(x147 == ([102, 97, 108, 115, 101] : Str))), (decide (((Sl.len x125 : Int) : Int) ≤ 8))) h
 refine Zj 22 rfl (Yw u146) (Zj 23 rfl (Yw u146) (Zj 24 rfl (Yw u146) (Zg 25 rfl (Yt rfl) (OV.pickF rfl u146 rfl) (Zg 26 rfl (Yt u131) (OV.pickF rfl rfl rfl) (Zp 27 rfl (OV.pickT rfl u131 rfl) (Zp 32 rfl Ya (Zp 33 rfl Ya (GA.done (by kernel_rfl) ?_))))))))
 exact Yj I3 (false, (decide (((Sl.len x125 : Int) : Int) ≤ 8))) h
 refine Zj 17 rfl (Yw u143) (Zj 18 rfl (Yw u143) (Zj 19 rfl (Yw u143) (Zg 20 rfl (Yt rfl) (OV.pickF rfl u143 rfl) (Zg 21 rfl (Yt rfl) Ym (Zj 22 rfl (Yw rfl) (Zj 23 rfl (Yw rfl) (Zj 24 rfl (Yw rfl) (Zg 25 rfl (Yt rfl) (OV.pickF rfl rfl rfl) (Zg 26 rfl (Yt u131) (OV.pickF rfl rfl rfl) (Zp 27 rfl (OV.pickT rfl u131 rfl) (Zp 32 rfl Ya (Zp 33 rfl Ya (GA.done (by kernel_rfl) ?_)))))))))))))
 exact Yj I3 (false, (decide (((Sl.len x125 : Int) : Int) ≤ 8))) h
 refine Zj 8 rfl (Yw u131) (Zj 9 rfl (Yw u131) (Zj 10 rfl ⟨_, rfl, .inr rfl⟩ (Zj 11 rfl ⟨_, rfl, .inr rfl⟩ (Zj 12 rfl (Yw u131) (Zj 13 rfl (Yw u131) (Zj 14 rfl ⟨_, rfl, .inr rfl⟩ (Zj 15 rfl ⟨_, rfl, .inr rfl⟩ (Zj 16 rfl ⟨_, rfl, .inr rfl⟩ (Zj 17 rfl ⟨_, rfl, .inr rfl⟩ (Zj 18 rfl ⟨_, rfl, .inr rfl⟩ (Zj 19 rfl ⟨_, rfl, .inr rfl⟩ (Zj 20 rfl ⟨_, rfl, .inr rfl⟩ (Zj 21 rfl ⟨_, rfl, .inr rfl⟩ (Zj 22 rfl ⟨_, rfl, .inr rfl⟩ (Zj 23 rfl ⟨_, rfl, .inr rfl⟩ (Zj 24 rfl ⟨_, rfl, .inr rfl⟩ (Zj 25 rfl ⟨_, rfl, .inr rfl⟩ (Zj 26 rfl (Yw u131) (Zp 27 rfl (OV.pickF rfl u131 rfl) (Zp 32 rfl Ya (Zp 33 rfl Ya (GA.done (by kernel_rfl) ?_))))))))))))))))))))))
 exact Yj I3 (false, (decide (((Sl.len x125 : Int) : Int) ≤ 8))) h
 refine Zj 4 rfl (Yw u127) (Zj 5 rfl (Yw u127) (Zp 6 rfl (OV.pickF rfl u127 rfl) (Zp 7 rfl Ym (Zj 8 rfl (Yw rfl) (Zj 9 rfl (Yw rfl) (Zj 10 rfl ⟨_, rfl, .inr rfl⟩ (Zj 11 rfl ⟨_, rfl, .inr rfl⟩ (Zj 12 rfl (Yw rfl) (Zj 13 rfl (Yw rfl) (Zj 14 rfl ⟨_, rfl, .inr rfl⟩ (Zj 15 rfl ⟨_, rfl, .inr rfl⟩ (Zj 16 rfl ⟨_, rfl, .inr rfl⟩ (Zj 17 rfl ⟨_, rfl, .inr rfl⟩ (Zj 18 rfl ⟨_, rfl, .inr rfl⟩ (Zj 19 rfl ⟨_, rfl, .inr rfl⟩ (Zj 20 rfl ⟨_, rfl, .inr rfl⟩ (Zj 21 rfl ⟨_, rfl, .inr rfl⟩ (Zj 22 rfl ⟨_, rfl, .inr rfl⟩ (Zj 23 rfl ⟨_, rfl, .inr rfl⟩ (Zj 24 rfl ⟨_, rfl, .inr rfl⟩ (Zj 25 rfl ⟨_, rfl, .inr rfl⟩ (Zj 26 rfl (Yw rfl) (Zp 27 rfl (OV.pickF rfl rfl rfl) (Zp 32 rfl Ya (Zp 33 rfl Ya (GA.done (by kernel_rfl) ?_))))))))))))))))))))))))))
 exact Yj I3 (false, (decide (((Sl.len x125 : Int) : Int) ≤ 8))) h
 intro x118 H119 h
 replace h := hR120 x118 H119 h
 exact Yj I3 (x118.1, x118.2) h
 refine GC.region (Za ?_)
 exact Yj I3 (false, true) h
 intro x20 H21 h
 replace h := hR22 x20 H21 h
 refine GC.seq (Zo (Zf (Yl h fun x149 h => ?_)))
 refine Zq (Zm (GL.nil (GC.block (Yp h (fun x151 => [(2, .bool x151.1), (3, .bool x151.2.1), (162, .int .i64 x151.2.2), (160, slv x149), (161, .int .i64 (Sl.len x149 : Int))]) ?_))))
 intro x151 H153 J152 h
 refine Zo (Zi (.bool (decide ((x151.2.2 : Int) < (Sl.len x149 : Int)))) (GL.nil (GC.seq (Yd h (fun u154 h => ?_) fun u154 h => ?_))))
 refine GC.skip (GC.seq (GC.block (Zo (Yx h fun p155 h => ?_))))
 obtain ⟨x160, v161, h⟩ := h
 refine Zv (OV.loadT rfl rfl rfl v161) (GL.alloc (cs := Qb.c Qb.zero) h trivial rfl rfl rfl ?_)
 intro b162 H163 h
 refine GL.storeT (p := (b162, 0)) (vs := Qb.c x160) h trivial rfl rfl rfl rfl ?_
 intro H164 h
 refine GL.nil (Zo ?_)
 obtain ⟨x165, v166, h⟩ := h
 refine Zv (OV.loadT rfl rfl rfl v166) (Zc h Qg1 ?_)
 rintro _ H169 ⟨r167, r168, rfl, h⟩
 refine Zm (Yv (.bool r167) rfl rfl (Yv (.bool r168) rfl rfl (Za (Za (GL.nil (GC.region (Zm (Zm (GL.cut0 2 [(174, .bool (x151.1 && r167)), (3, .bool x151.2.1), (12, .bool r168), (160, slv x149), (161, .int .i64 (Sl.len x149 : Int)), (162, .int .i64 x151.2.2)] ?_ ?_)))))))))
 rcases Bool.eq_false_or_eq_true x151.1 with u170 | u170
 refine Zu u170 Ym (Zt u170 ?_)
 exact GL.jump0 (fun _ _ h => h) () rfl ⟨(by rw [u170]; rfl), rfl, rfl, rfl, rfl, rfl, trivial⟩
 refine Zk u170 (Zn u170 ?_)
 exact GL.jump0 (fun _ _ h => h) () rfl ⟨(by rw [u170]; rfl), rfl, rfl, rfl, rfl, rfl, trivial⟩
 refine Zm (Zm (GL.cut0 2 [(178, .bool (x151.2.1 && r168)), (160, slv x149), (161, .int .i64 (Sl.len x149 : Int)), (162, .int .i64 x151.2.2), (174, .bool (x151.1 && r167))] ?_ ?_))
 rcases Bool.eq_false_or_eq_true x151.2.1 with u171 | u171
 refine Zu u171 Ym (Zt u171 ?_)
 exact GL.jump0 (fun _ _ h => h) () rfl ⟨(by rw [u171]; rfl), rfl, rfl, rfl, rfl, trivial⟩
 refine Zk u171 (Zn u171 ?_)
 exact GL.jump0 (fun _ _ h => h) () rfl ⟨(by rw [u171]; rfl), rfl, rfl, rfl, rfl, trivial⟩
 refine Za (Za (GL.nil_to (fun _ _ h => h) (GC.region (Zi (.int .i64 (w .i64 (x151.2.2 + 1))) (Zm ?_)))))
 exact Yj I3 ((x151.1 && r167), (x151.2.1 && r168), (w .i64 (x151.2.2 + 1))) h
 refine GC.exit_to (fun _ _ h => h) (Zo (Zm (Zm (Za (Za (GL.nil ?_))))))
 exact Y2 I3 ⟨x151.1, x151.2.1, rfl, h⟩
def QcD (C : Ctx) (p_b : Bool) (K : Str → Heap → Prop) (H : Heap) : Prop :=
 ift p_b
 (K [116, 114, 117, 101] H)
 (K [102, 97, 108, 115, 101] H)
theorem Qfy (C p_b K H) (h : QcD C p_b K H) : QcR C p_b K H := by
 refine Ye Tryz.func233 rfl Tryz.ntmps233 [(0, .bool p_b)] (Zo (Za (GL.nil (GC.seq (Zo (Zm (GL.nil (Yd h (fun u1 h => ?_) fun u1 h => ?_))))))))
 refine Zo (Za (GL.nil ?_))
 exact Y1 I3 ⟨[116, 114, 117, 101], rfl, h⟩
 refine GC.skip (Zo (Za (GL.nil ?_)))
 exact Y1 I3 ⟨[102, 97, 108, 115, 101], rfl, h⟩
def QfN (C : Ctx) (p_w : Option (Nat × Nat)) (p_l : Sl) (p_between : Str) (p_write : Value) (K : Heap → Prop) (H : Heap) : Prop :=
 lp (α := Int) 0 H (fun x1 J2 H3 =>
 ift (decide ((x1 : Int) < (Sl.len p_l : Int)))
 (ixa p_l x1 fun p5 =>
 ldT H3 Qf.c (p5.1, p5.2 + (x1 : Int).toNat * 2) fun x10 =>
 nw (Qf.c Qf.zero) (fun b12 H13 =>
 stT (b12, 0) (Qf.c x10) (fun H14 =>
 jn (α := Unit) (fun x16 H17 =>
 ldT H17 Qf.c (b12, 0) fun x25 =>
 callU Tryz.prog C p_write [.agg (Qf.c x25).toArray] H17 (fun v H27 => v = .tuple #[] ∧
 J2 (w .i64 (x1 + 1)) H27))
 (fun J15 => ift (decide ((x1 : Int) > 0))
 (nck p_w fun p20 =>
 Qm C (some (p20.1, p20.2 + 0)) p_between (fun r22 r23 H24 =>
 J15 () H24) H14)
 (J15 () H14))) H13) H3)
 (K H3))
theorem Qi9 (C p_w p_l p_between p_write K H) (h : QfN C p_w p_l p_between p_write K H) : Qd6 C p_w p_l p_between p_write K H := by
 refine Ye Tryz.func235 rfl Tryz.ntmps235 [(0, pv p_w), (1, slv p_l), (2, sv p_between), (3, p_write)] (Zo (Zm (Zq (Zm (GL.nil (GC.block (Yp h (fun x1 => [(12, .int .i64 x1), (0, pv p_w), (2, sv p_between), (3, p_write), (10, slv p_l), (11, .int .i64 (Sl.len p_l : Int))]) ?_)))))))
 intro x1 H3 J2 h
 refine Zo (Zi (.bool (decide ((x1 : Int) < (Sl.len p_l : Int)))) (GL.nil (GC.seq (Yd h (fun u4 h => ?_) fun u4 h => ?_))))
 refine GC.skip (GC.seq (GC.block (Zo (Zm (Yx h fun p5 h => ?_)))))
 obtain ⟨x10, v11, h⟩ := h
 refine Zv (OV.loadT rfl rfl rfl v11) (GL.alloc (cs := Qf.c Qf.zero) h trivial rfl rfl rfl ?_)
 intro b12 H13 h
 refine Za (GL.storeT (p := (b12, 0)) (vs := Qf.c x10) h trivial rfl rfl rfl rfl ?_)
 intro H14 h
 refine GL.nil ?_
 obtain ⟨J15, h, hR18⟩ := h
 refine GC.join (α := Unit) J15 (fun _ => [(0, pv p_w), (2, sv p_between), (3, p_write), (9, pv (some (b12, 0))), (10, slv p_l), (11, .int .i64 (Sl.len p_l : Int)), (12, .int .i64 x1)]) ?_ ?_
 refine Zo (Zm (Zi (.bool (decide ((x1 : Int) > 0))) (GL.nil (Yd h (fun u19 h => ?_) fun u19 h => ?_))))
 refine GC.region (Zm ?_)
 obtain ⟨p20, hp21, h⟩ := h
 refine Zv (OV.nilCheck (q := p_w) rfl hp21) (Zf (Zm (Zc h Qn ?_)))
 rintro _ H24 ⟨r22, r23, rfl, h⟩
 exact Yj I3 () h
 exact Yk I3 () h
 intro x16 H17 h
 replace h := hR18 x16 H17 h
 refine GC.region (Zm ?_)
 obtain ⟨x25, v26, h⟩ := h
 refine Zv (OV.loadT rfl rfl rfl v26) (GL.callU (xv := p_write) (vs := [.agg (Qf.c x25).toArray]) h trivial rfl rfl rfl ?_)
 rintro _ H27 ⟨rfl, h⟩
 refine GL.nil_to (fun _ _ h => h) (GC.region (Zi (.int .i64 (w .i64 (x1 + 1))) (Zm ?_)))
 exact Yj I3 (w .i64 (x1 + 1)) h
 exact GC.exit_ends (fun _ _ hf hs => QC rfl hf hs ⟨rfl, h⟩)
def Qb8 (C : Ctx) (p_s : Str) (p_c : Int) (K : Int → Heap → Prop) (H : Heap) : Prop :=
 K (idxB p_s p_c) H
theorem QeS (C p_s p_c K H) (h : Qb8 C p_s p_c K H) : Qa5 C p_s p_c K H := by
 refine Ye Tryz.func239 rfl Tryz.ntmps239 [(0, sv p_s), (1, .int .u8 p_c)] (Zo (Za (GL.nil (Zo (Zm (Zm (Zv (OV.ext Qeg (vs := [sv p_s, .int .u8 p_c]) (v := .int .i64 (idxB p_s p_c)) rfl (fun w => Qta _ _ w)) (Za (GL.nil ?_)))))))))
 exact Y1 I3 ⟨(idxB p_s p_c), rfl, h⟩
def QbH (C : Ctx) (p_s : Sl) (p_f : Value) (K : Int → Heap → Prop) (H : Heap) : Prop :=
 lp (α := Int) 0 H (fun x1 J2 H3 =>
 ift (decide ((x1 : Int) < (Sl.len p_s : Int)))
 (ixa p_s x1 fun p5 =>
 ldT H3 Qf.c (p5.1, p5.2 + (x1 : Int).toNat * 2) fun x10 =>
 callU Tryz.prog C p_f [.agg (Qf.c x10).toArray] H3 (fun v H13 => ∃ (r12 : Bool), v = .bool r12 ∧
 ift r12
 (K x1 H13)
 (J2 (w .i64 (x1 + 1)) H13)))
 (K (-1) H3))
theorem Qd2 (C p_s p_f K H) (h : QbH C p_s p_f K H) : QbO C p_s p_f K H := by
 refine Ye Tryz.func243 rfl Tryz.ntmps243 [(0, slv p_s), (1, p_f)] (Zo (Za (GL.nil (GC.seq (Zo (Zm (Zq (Zm (GL.nil (GC.block (Yp h (fun x1 => [(8, .int .i64 x1), (0, slv p_s), (1, p_f), (7, .int .i64 (Sl.len p_s : Int))]) ?_)))))))))))
 intro x1 H3 J2 h
 refine Zo (Zi (.bool (decide ((x1 : Int) < (Sl.len p_s : Int)))) (GL.nil (GC.seq (Yd h (fun u4 h => ?_) fun u4 h => ?_))))
 refine GC.skip (GC.seq (GC.block (Zo (Zm (Za (GL.nil (Zo (Zm (Zm (Zm (Yx h fun p5 h => ?_)))))))))))
 obtain ⟨x10, v11, h⟩ := h
 refine Zv (OV.loadT rfl rfl rfl v11) (GL.callU (xv := p_f) (vs := [.agg (Qf.c x10).toArray]) h trivial rfl rfl rfl ?_)
 rintro _ H13 ⟨r12, rfl, h⟩
 refine GL.nil (Yd h (fun u14 h => ?_) fun u14 h => ?_)
 refine Zo (Zm (Za (GL.nil ?_)))
 exact Y1 I3 ⟨x1, rfl, h⟩
 refine GC.skip_to (fun _ _ h => h) (GC.region (Zi (.int .i64 (w .i64 (x1 + 1))) (Zm ?_)))
 exact Yj I3 (w .i64 (x1 + 1)) h
 refine GC.exit_to (fun _ _ h => h) (Zo (Za (GL.nil ?_)))
 exact Y1 I3 ⟨(-1), rfl, h⟩
def QjG (C : Ctx) (p_s : Str) (K : Int → Bool → Heap → Prop) (H : Heap) : Prop :=
 Qd4 C p_s [45] (fun r1 H2 =>
 jn (α := Bool) (fun b3 H9 =>
 jn (α := Bool) (fun b10 H18 =>
 ift b10
 (K 0 false H18)
 (K (List.length r1 : Int) true H18))
 (fun J11 => ift b3
 (J11 true H9)
 (ixs r1 0 fun c14 =>
 J11 ((((c14.toNat : Int) : Int) == 48) && (!(p_s == ([48] : Str)))) H9)))
 (fun J4 => ift (r1 == ([] : Str))
 (J4 true H2)
 (Qca C r1 [48, 49, 50, 51, 52, 53, 54, 55, 56, 57] (fun r7 H8 =>
 J4 (!(r7 == ([] : Str))) H8) H2))) H
theorem QmK (C p_s K H) (h : QjG C p_s K H) : Qhl C p_s K H := by
 refine Ye Tryz.func247 rfl Tryz.ntmps247 [(0, sv p_s)] (Zo (Za (Za (GL.nil (Zo (Zm (Zc h Qjl ?_)))))))
 rintro _ H2 ⟨r1, rfl, h⟩
 refine Za (GL.nil (GC.seq (Zo (Zm (Zv (OV.sbin (a := r1) (b := ([] : Str)) (v := .bool (r1 == ([] : Str))) rfl rfl rfl) (Zm ?_))))))
 obtain ⟨J4, h, hR5⟩ := h
 refine GL.cut (α := Bool) 4 J4 (fun b3 => [(13, .bool b3), (0, sv p_s), (4, sv r1)]) ?_ ?_
 rcases h.em with ⟨u6, h⟩ | ⟨u6, h⟩
 refine Zk u6 (Zk u6 (Zk u6 (Zt u6 ?_)))
 exact Yj I3 true h
 refine Zu u6 Ym (GL.call h (Yt u6) rfl QmY (vs := [sv r1, sv [48, 49, 50, 51, 52, 53, 54, 55, 56, 57]]) rfl ?_)
 rintro _ H8 ⟨r7, rfl, h⟩
 refine Zu u6 (OV.sbin (a := r7) (b := ([] : Str)) (v := .bool (!(r7 == ([] : Str)))) rfl rfl rfl) (Zn u6 ?_)
 exact Yj I3 (!(r7 == ([] : Str))) h
 intro b3 H9 h
 replace h := hR5 b3 H9 h
 refine Zm ?_
 obtain ⟨J11, h, hR12⟩ := h
 refine GL.cut (α := Bool) 8 J11 (fun b10 => [(22, .bool b10), (4, sv r1)]) ?_ ?_
 rcases h.em with ⟨u13, h⟩ | ⟨u13, h⟩
 refine Zk u13 (Zk u13 (Zk u13 (Zk u13 (GL.skip ⟨_, rfl, .inr rfl⟩ rfl (GL.skip ⟨_, rfl, .inr rfl⟩ rfl (Zk u13 (Zt u13 ?_)))))))
 exact Yj I3 true h
 refine Zu u13 Ym ?_
 obtain ⟨c14, ha15, hb16, h⟩ := h
 refine Zu u13 (OV.indexStr rfl rfl rfl ha15 hb16) (Zu u13 (OV.ibin (v := .bool (((c14.toNat : Int) : Int) == 48)) rfl rfl rfl) (Zu u13 Ym (GL.cut0 3 [(21, .bool ((((c14.toNat : Int) : Int) == 48) && (!(p_s == ([48] : Str))))), (4, sv r1), (14, .bool b3)] ?_ ?_)))
 rcases Zb (((c14.toNat : Int) : Int) == 48) with u17 | u17
 refine Zu u17 Ym (Zu u17 (OV.sbin (a := p_s) (b := ([48] : Str)) (v := .bool (!(p_s == ([48] : Str)))) rfl rfl rfl) (Zu u13 (OV.pickT rfl u17 rfl) ?_))
 exact GL.jump0 (fun _ _ h => h) () rfl ⟨(by rw [u17]; rfl), rfl, rfl, trivial⟩
 refine Zk u17 (Zk u17 (Zu u13 (OV.pickF rfl u17 rfl) ?_))
 exact GL.jump0 (fun _ _ h => h) () rfl ⟨(by rw [u17]; rfl), rfl, rfl, trivial⟩
 refine Zn u13 ?_
 exact Yj I3 ((((c14.toNat : Int) : Int) == 48) && (!(p_s == ([48] : Str)))) h
 intro b10 H18 h
 replace h := hR12 b10 H18 h
 refine GL.nil (Yd h (fun u19 h => ?_) fun u19 h => ?_)
 refine Zo (Za (Za (GL.nil ?_)))
 exact Y2 I3 ⟨0, false, rfl, h⟩
 refine GC.skip (Zo (Zm (Zr (Za (Za (GL.nil ?_))))))
 exact Y2 I3 ⟨(List.length r1 : Int), true, rfl, h⟩
def Qls (C : Ctx) (p_s : Str) (K : Bool → Heap → Prop) (H : Heap) : Prop :=
 jn (α := Bool) (fun b2 H9 =>
 jn (α := Bool) (fun b10 H17 =>
 ift b10
 (K false H17)
 (lp (α := Int) 0 H17 (fun x19 J20 H21 =>
 ift (decide ((x19 : Int) < (List.length p_s : Int)))
 (ixs p_s x19 fun c23 =>
 ift (!(((((decide (((c23.toNat : Int) : Int) ≥ 97)) && (decide (((c23.toNat : Int) : Int) ≤ 122))) || ((decide (((c23.toNat : Int) : Int) ≥ 65)) && (decide (((c23.toNat : Int) : Int) ≤ 90)))) || ((decide (((c23.toNat : Int) : Int) ≥ 48)) && (decide (((c23.toNat : Int) : Int) ≤ 57)))) || (((c23.toNat : Int) : Int) == 95)))
 (K false H21)
 (J20 (w .i64 (x19 + 1)) H21))
 (K true H21))))
 (fun J11 => ift b2
 (J11 true H9)
 (ixs p_s 0 fun c14 =>
 J11 (decide (((c14.toNat : Int) : Int) > 122)) H9)))
 (fun J3 => ift ((p_s == ([] : Str)) || (decide (((List.length p_s : Int) : Int) > 32)))
 (J3 true H)
 (ixs p_s 0 fun c6 =>
 J3 (decide (((c6.toNat : Int) : Int) < 97)) H))
theorem Qok (C p_s K H) (h : Qls C p_s K H) : QeA C p_s K H := by
 refine Ye Tryz.func248 rfl Tryz.ntmps248 [(0, sv p_s)] (Zo (Za (GL.nil (GC.seq (Zo (Zm (Zv (OV.sbin (a := p_s) (b := ([] : Str)) (v := .bool (p_s == ([] : Str))) rfl rfl rfl) (Zm (GL.cut0 4 [(11, .bool ((p_s == ([] : Str)) || (decide (((List.length p_s : Int) : Int) > 32)))), (0, sv p_s)] ?_ ?_)))))))))
 rcases Zb (p_s == ([] : Str)) with hc1 | hc1
 refine Zk hc1 (Zk hc1 (Zk hc1 (Zt hc1 ?_)))
 exact GL.jump0 (fun _ _ h => h) () rfl ⟨(by rw [hc1]; rfl), rfl, trivial⟩
 refine Zu hc1 Ym (Zu hc1 (OV.lenStr rfl rfl) (Zu hc1 (OV.ibin (v := .bool (decide (((List.length p_s : Int) : Int) > 32))) rfl rfl rfl) (Zn hc1 ?_)))
 exact GL.jump0 (fun _ _ h => h) () rfl ⟨(by rw [hc1]; rfl), rfl, trivial⟩
 refine Zm ?_
 obtain ⟨J3, h, hR4⟩ := h
 refine GL.cut (α := Bool) 4 J3 (fun b2 => [(16, .bool b2), (0, sv p_s)]) ?_ ?_
 rcases h.em with ⟨hc5, h⟩ | ⟨hc5, h⟩
 refine Zk hc5 (Zk hc5 (Zk hc5 (Zt hc5 ?_)))
 exact Yj I3 true h
 refine Zu hc5 Ym ?_
 obtain ⟨c6, ha7, hb8, h⟩ := h
 refine Zu hc5 (OV.indexStr rfl rfl rfl ha7 hb8) (Zu hc5 (OV.ibin (v := .bool (decide (((c6.toNat : Int) : Int) < 97))) rfl rfl rfl) (Zn hc5 ?_))
 exact Yj I3 (decide (((c6.toNat : Int) : Int) < 97)) h
 intro b2 H9 h
 replace h := hR4 b2 H9 h
 refine Zm ?_
 obtain ⟨J11, h, hR12⟩ := h
 refine GL.cut (α := Bool) 4 J11 (fun b10 => [(21, .bool b10), (0, sv p_s)]) ?_ ?_
 rcases h.em with ⟨hc13, h⟩ | ⟨hc13, h⟩
 refine Zk hc13 (Zk hc13 (Zk hc13 (Zt hc13 ?_)))
 exact Yj I3 true h
 refine Zu hc13 Ym ?_
 obtain ⟨c14, ha15, hb16, h⟩ := h
 refine Zu hc13 (OV.indexStr rfl rfl rfl ha15 hb16) (Zu hc13 (OV.ibin (v := .bool (decide (((c14.toNat : Int) : Int) > 122))) rfl rfl rfl) (Zn hc13 ?_))
 exact Yj I3 (decide (((c14.toNat : Int) : Int) > 122)) h
 intro b10 H17 h
 replace h := hR12 b10 H17 h
 refine GL.nil (Yd h (fun hc18 h => ?_) fun hc18 h => ?_)
 refine Zo (Za (GL.nil ?_))
 exact Y1 I3 ⟨false, rfl, h⟩
 refine GC.skip (GC.seq (Zo (Zm (Zr (Zm (GL.nil (GC.block (Yp h (fun x19 => [(24, .int .i64 x19), (0, sv p_s), (23, .int .i64 (List.length p_s : Int))]) ?_))))))))
 intro x19 H21 J20 h
 refine Zo (Zi (.bool (decide ((x19 : Int) < (List.length p_s : Int)))) (GL.nil (GC.seq (Yd h (fun hc22 h => ?_) fun hc22 h => ?_))))
 refine GC.skip (GC.seq (GC.block (Zo (Zm (Za (GL.nil (Zo (Zm (Zm (Ys h fun c23 h => ?_))))))))))
 refine Za (GL.nil (Zo (Zm (Zi (.bool (decide (((c23.toNat : Int) : Int) ≥ 97))) (Zm (GL.cut0 3 [(35, .bool ((decide (((c23.toNat : Int) : Int) ≥ 97)) && (decide (((c23.toNat : Int) : Int) ≤ 122)))), (0, sv p_s), (4, .int .u8 (c23.toNat : Int)), (23, .int .i64 (List.length p_s : Int)), (24, .int .i64 x19)] ?_ ?_))))))
 rcases Zb (decide (((c23.toNat : Int) : Int) ≥ 97)) with hc26 | hc26
 refine Zu hc26 Ym (Zu hc26 (OV.ibin (v := .bool (decide (((c23.toNat : Int) : Int) ≤ 122))) rfl rfl rfl) (Zt hc26 ?_))
 exact GL.jump0 (fun _ _ h => h) () rfl ⟨(by rw [hc26]; rfl), rfl, rfl, rfl, rfl, trivial⟩
 refine Zk hc26 (Zk hc26 (Zn hc26 ?_))
 exact GL.jump0 (fun _ _ h => h) () rfl ⟨(by rw [hc26]; rfl), rfl, rfl, rfl, rfl, trivial⟩
 refine Zm (GL.cut0 7 [(43, .bool (((decide (((c23.toNat : Int) : Int) ≥ 97)) && (decide (((c23.toNat : Int) : Int) ≤ 122))) || ((decide (((c23.toNat : Int) : Int) ≥ 65)) && (decide (((c23.toNat : Int) : Int) ≤ 90))))), (0, sv p_s), (4, .int .u8 (c23.toNat : Int)), (23, .int .i64 (List.length p_s : Int)), (24, .int .i64 x19)] ?_ ?_)
 rcases Zb ((decide (((c23.toNat : Int) : Int) ≥ 97)) && (decide (((c23.toNat : Int) : Int) ≤ 122))) with hc27 | hc27
 refine Zk hc27 (Zk hc27 (Zk hc27 (GL.skip ⟨_, rfl, .inr rfl⟩ rfl (GL.skip ⟨_, rfl, .inr rfl⟩ rfl (Zk hc27 (Zt hc27 ?_))))))
 exact GL.jump0 (fun _ _ h => h) () rfl ⟨(by rw [hc27]; rfl), rfl, rfl, rfl, rfl, trivial⟩
 refine Zu hc27 Ym (Zu hc27 (OV.ibin (v := .bool (decide (((c23.toNat : Int) : Int) ≥ 65))) rfl rfl rfl) (Zu hc27 Ym (GL.cut0 3 [(42, .bool ((decide (((c23.toNat : Int) : Int) ≥ 65)) && (decide (((c23.toNat : Int) : Int) ≤ 90)))), (0, sv p_s), (4, .int .u8 (c23.toNat : Int)), (23, .int .i64 (List.length p_s : Int)), (24, .int .i64 x19), (36, .bool ((decide (((c23.toNat : Int) : Int) ≥ 97)) && (decide (((c23.toNat : Int) : Int) ≤ 122))))] ?_ ?_)))
 rcases Zb (decide (((c23.toNat : Int) : Int) ≥ 65)) with hc28 | hc28
 refine Zu hc28 Ym (Zu hc28 (OV.ibin (v := .bool (decide (((c23.toNat : Int) : Int) ≤ 90))) rfl rfl rfl) (Zu hc27 (OV.pickT rfl hc28 rfl) ?_))
 exact GL.jump0 (fun _ _ h => h) () rfl ⟨(by rw [hc28]; rfl), rfl, rfl, rfl, rfl, rfl, trivial⟩
 refine Zk hc28 (Zk hc28 (Zu hc27 (OV.pickF rfl hc28 rfl) ?_))
 exact GL.jump0 (fun _ _ h => h) () rfl ⟨(by rw [hc28]; rfl), rfl, rfl, rfl, rfl, rfl, trivial⟩
 refine Zn hc27 ?_
 exact GL.jump0 (fun _ _ h => h) () rfl ⟨(by rw [hc27]; rfl), rfl, rfl, rfl, rfl, trivial⟩
 refine Zm (GL.cut0 7 [(51, .bool ((((decide (((c23.toNat : Int) : Int) ≥ 97)) && (decide (((c23.toNat : Int) : Int) ≤ 122))) || ((decide (((c23.toNat : Int) : Int) ≥ 65)) && (decide (((c23.toNat : Int) : Int) ≤ 90)))) || ((decide (((c23.toNat : Int) : Int) ≥ 48)) && (decide (((c23.toNat : Int) : Int) ≤ 57))))), (0, sv p_s), (4, .int .u8 (c23.toNat : Int)), (23, .int .i64 (List.length p_s : Int)), (24, .int .i64 x19)] ?_ ?_)
 rcases Zb (((decide (((c23.toNat : Int) : Int) ≥ 97)) && (decide (((c23.toNat : Int) : Int) ≤ 122))) || ((decide (((c23.toNat : Int) : Int) ≥ 65)) && (decide (((c23.toNat : Int) : Int) ≤ 90)))) with hc29 | hc29
 refine Zk hc29 (Zk hc29 (Zk hc29 (GL.skip ⟨_, rfl, .inr rfl⟩ rfl (GL.skip ⟨_, rfl, .inr rfl⟩ rfl (Zk hc29 (Zt hc29 ?_))))))
 exact GL.jump0 (fun _ _ h => h) () rfl ⟨(by rw [hc29]; rfl), rfl, rfl, rfl, rfl, trivial⟩
 refine Zu hc29 Ym (Zu hc29 (OV.ibin (v := .bool (decide (((c23.toNat : Int) : Int) ≥ 48))) rfl rfl rfl) (Zu hc29 Ym (GL.cut0 3 [(50, .bool ((decide (((c23.toNat : Int) : Int) ≥ 48)) && (decide (((c23.toNat : Int) : Int) ≤ 57)))), (0, sv p_s), (4, .int .u8 (c23.toNat : Int)), (23, .int .i64 (List.length p_s : Int)), (24, .int .i64 x19), (44, .bool (((decide (((c23.toNat : Int) : Int) ≥ 97)) && (decide (((c23.toNat : Int) : Int) ≤ 122))) || ((decide (((c23.toNat : Int) : Int) ≥ 65)) && (decide (((c23.toNat : Int) : Int) ≤ 90)))))] ?_ ?_)))
 rcases Zb (decide (((c23.toNat : Int) : Int) ≥ 48)) with hc30 | hc30
 refine Zu hc30 Ym (Zu hc30 (OV.ibin (v := .bool (decide (((c23.toNat : Int) : Int) ≤ 57))) rfl rfl rfl) (Zu hc29 (OV.pickT rfl hc30 rfl) ?_))
 exact GL.jump0 (fun _ _ h => h) () rfl ⟨(by rw [hc30]; rfl), rfl, rfl, rfl, rfl, rfl, trivial⟩
 refine Zk hc30 (Zk hc30 (Zu hc29 (OV.pickF rfl hc30 rfl) ?_))
 exact GL.jump0 (fun _ _ h => h) () rfl ⟨(by rw [hc30]; rfl), rfl, rfl, rfl, rfl, rfl, trivial⟩
 refine Zn hc29 ?_
 exact GL.jump0 (fun _ _ h => h) () rfl ⟨(by rw [hc29]; rfl), rfl, rfl, rfl, rfl, trivial⟩
 refine Zm (GL.cut0 3 [(55, .bool (((((decide (((c23.toNat : Int) : Int) ≥ 97)) && (decide (((c23.toNat : Int) : Int) ≤ 122))) || ((decide (((c23.toNat : Int) : Int) ≥ 65)) && (decide (((c23.toNat : Int) : Int) ≤ 90)))) || ((decide (((c23.toNat : Int) : Int) ≥ 48)) && (decide (((c23.toNat : Int) : Int) ≤ 57)))) || (((c23.toNat : Int) : Int) == 95))), (0, sv p_s), (23, .int .i64 (List.length p_s : Int)), (24, .int .i64 x19)] ?_ ?_)
 rcases Zb ((((decide (((c23.toNat : Int) : Int) ≥ 97)) && (decide (((c23.toNat : Int) : Int) ≤ 122))) || ((decide (((c23.toNat : Int) : Int) ≥ 65)) && (decide (((c23.toNat : Int) : Int) ≤ 90)))) || ((decide (((c23.toNat : Int) : Int) ≥ 48)) && (decide (((c23.toNat : Int) : Int) ≤ 57)))) with hc31 | hc31
 refine Zk hc31 (Zk hc31 (Zt hc31 ?_))
 exact GL.jump0 (fun _ _ h => h) () rfl ⟨(by rw [hc31]; rfl), rfl, rfl, rfl, trivial⟩
 refine Zu hc31 Ym (Zu hc31 (OV.ibin (v := .bool (((c23.toNat : Int) : Int) == 95)) rfl rfl rfl) (Zn hc31 ?_))
 exact GL.jump0 (fun _ _ h => h) () rfl ⟨(by rw [hc31]; rfl), rfl, rfl, rfl, trivial⟩
 refine Zv (OV.not rfl) (GL.nil (Yd h (fun hc32 h => ?_) fun hc32 h => ?_))
 refine Zo (Za (GL.nil ?_))
 exact Y1 I3 ⟨false, rfl, h⟩
 refine GC.skip_to (fun _ _ h => h) (GC.region (Zi (.int .i64 (w .i64 (x19 + 1))) (Zm ?_)))
 exact Yj I3 (w .i64 (x19 + 1)) h
 refine GC.exit_to (fun _ _ h => h) (Zo (Za (GL.nil ?_)))
 exact Y1 I3 ⟨true, rfl, h⟩
def QfK (C : Ctx) (p_s : Str) (p_prefix : Str) (K : Str → Heap → Prop) (H : Heap) : Prop :=
 Qb0 C p_s p_prefix (fun r1 H2 =>
 K r1 H2) H
theorem Qi6 (C p_s p_prefix K H) (h : QfK C p_s p_prefix K H) : Qd4 C p_s p_prefix K H := by
 refine Ye Tryz.func255 rfl Tryz.ntmps255 [(0, sv p_s), (1, sv p_prefix)] (Zo (Za (GL.nil (Zo (Zm (Zm (Zc h QeQ ?_)))))))
 rintro _ H2 ⟨r1, rfl, h⟩
 refine Za (GL.nil ?_)
 exact Y1 I3 ⟨r1, rfl, h⟩
def Qjt (C : Ctx) (p_s : Str) (p_cutset : Str) (K : Str → Heap → Prop) (H : Heap) : Prop :=
 ift ((p_s == ([] : Str)) || (p_cutset == ([] : Str)))
 (K p_s H)
 (jn (α := Bool) (fun b3 H10 =>
 ift b3
 (dr H10 fun Hs12 =>
 ixs p_cutset 0 fun c14 =>
 ixs p_cutset 0 fun c17 =>
 Qid C p_s (c14.toNat : Int) (fun r21 H22 =>
 Heap.le Hs12 H22 ∧
 QiV C r21 (c17.toNat : Int) (fun r24 H25 =>
 Heap.le Hs12 H25 ∧
 K r24 H25) H22) H10)
 (Qaf C p_cutset (fun r26 r27 H28 =>
 nw ((List.replicate 256 (.bool false : Value))) (fun b29 H30 =>
 stC 256 (b29, 0) r26 (fun H31 =>
 ift r27
 (Qcp C p_s (some (b29, 0)) (fun r35 H36 =>
 QcJ C r35 (some (b29, 0)) (fun r37 H38 =>
 K r37 H38) H36) H31)
 (QgN C p_s p_cutset (fun r39 H40 =>
 Qhj C r39 p_cutset (fun r41 H42 =>
 K r41 H42) H40) H31)) H30) H28) H10))
 (fun J4 => ift (((List.length p_cutset : Int) : Int) == 1)
 (ixs p_cutset 0 fun c7 =>
 J4 (decide (((c7.toNat : Int) : Int) < 128)) H)
 (J4 false H)))
theorem Qmx (C p_s p_cutset K H) (h : Qjt C p_s p_cutset K H) : Qca C p_s p_cutset K H := by
 refine Ye Tryz.func256 rfl Tryz.ntmps256 [(0, sv p_s), (1, sv p_cutset)] (Zo (Za (GL.nil (GC.seq (Zo (Zm (Zv (OV.sbin (a := p_s) (b := ([] : Str)) (v := .bool (p_s == ([] : Str))) rfl rfl rfl) (Zm (GL.cut0 3 [(12, .bool ((p_s == ([] : Str)) || (p_cutset == ([] : Str)))), (0, sv p_s), (1, sv p_cutset)] ?_ ?_)))))))))
 rcases Zb (p_s == ([] : Str)) with u1 | u1
 refine Zk u1 (Zk u1 (Zt u1 ?_))
 exact GL.jump0 (fun _ _ h => h) () rfl ⟨(by rw [u1]; rfl), rfl, rfl, trivial⟩
 refine Zu u1 Ym (Zu u1 (OV.sbin (a := p_cutset) (b := ([] : Str)) (v := .bool (p_cutset == ([] : Str))) rfl rfl rfl) (Zn u1 ?_))
 exact GL.jump0 (fun _ _ h => h) () rfl ⟨(by rw [u1]; rfl), rfl, rfl, trivial⟩
 refine GL.nil (Yd h (fun u2 h => ?_) fun u2 h => ?_)
 refine Zo (Zm (Za (GL.nil ?_)))
 exact Y1 I3 ⟨p_s, rfl, h⟩
 refine GC.skip (GC.seq (Zo (Zm (Zr (Zi (.bool (((List.length p_cutset : Int) : Int) == 1)) (Zm ?_))))))
 obtain ⟨J4, h, hR5⟩ := h
 refine GL.cut (α := Bool) 4 J4 (fun b3 => [(21, .bool b3), (0, sv p_s), (1, sv p_cutset)]) ?_ ?_
 rcases h.em with ⟨u6, h⟩ | ⟨u6, h⟩
 refine Zu u6 Ym ?_
 obtain ⟨c7, ha8, hb9, h⟩ := h
 refine Zu u6 (OV.indexStr rfl rfl rfl ha8 hb9) (Zu u6 (OV.ibin (v := .bool (decide (((c7.toNat : Int) : Int) < 128))) rfl rfl rfl) (Zt u6 ?_))
 exact Yj I3 (decide (((c7.toNat : Int) : Int) < 128)) h
 refine Zk u6 (Zk u6 (Zk u6 (Zn u6 ?_)))
 exact Yj I3 false h
 intro b3 H10 h
 replace h := hR5 b3 H10 h
 refine GL.nil (Yd h (fun u11 h => ?_) fun u11 h => ?_)
 refine GC.seq ?_
 obtain ⟨Hs12, hle13, h⟩ := h
 refine GC.any (Hs := Hs12) (by kernel_rfl) hle13 (Zp 0 rfl Ym (Zp 1 rfl Ym ?_))
 obtain ⟨c14, ha15, hb16, h⟩ := h
 refine Zp 2 rfl (OV.indexStr rfl rfl rfl ha15 hb16) (Zp 4 rfl Ym ?_)
 obtain ⟨c17, ha18, hb19, h⟩ := h
 refine Zp 5 rfl (OV.indexStr rfl rfl rfl ha18 hb19) (GA.eff 3 rfl (by kernel_rfl) (Zc h QhM ?_))
 rintro _ H22 ⟨r21, rfl, h⟩
 obtain ⟨hle20, h⟩ := h
 refine GA.back hle20 (GA.eff 6 rfl (by kernel_rfl) (Zc h Qin ?_))
 rintro _ H25 ⟨r24, rfl, h⟩
 obtain ⟨hle23, h⟩ := h
 refine GA.back hle23 (Zp 7 rfl Ya (GA.done (by kernel_rfl) (GL.nil ?_)))
 exact Y1 I3 ⟨r24, rfl, h⟩
 refine GC.skip (GC.seq (Zo (Zm (Zc h Qim ?_))))
 rintro _ H28 ⟨r26, r27, rfl, h⟩
 refine Zm (Yv (.agg (List.toArray r26)) rfl rfl (Yv (.bool r27) rfl rfl (GL.alloc (cs := (List.replicate 256 (.bool false : Value))) h trivial rfl rfl rfl ?_)))
 intro b29 H30 h
 obtain ⟨hl32, h133, h⟩ := h
 refine GL.storeT (p := (b29, 0)) (vs := r26) h trivial rfl rfl h133 (by rw [hl32]; rfl) ?_
 intro H31 h
 refine Za (GL.nil (Zo (Zm (GL.nil (Yd h (fun u34 h => ?_) fun u34 h => ?_)))))
 refine Zo (Zm (Zc h Qhn ?_))
 rintro _ H36 ⟨r35, rfl, h⟩
 refine Zc h QhL ?_
 rintro _ H38 ⟨r37, rfl, h⟩
 refine Za (GL.nil ?_)
 exact Y1 I3 ⟨r37, rfl, h⟩
 refine GC.skip (Zo (Zm (Zm (Zc h Qgy ?_))))
 rintro _ H40 ⟨r39, rfl, h⟩
 refine Zm (Zc h QgO ?_)
 rintro _ H42 ⟨r41, rfl, h⟩
 refine Za (GL.nil ?_)
 exact Y1 I3 ⟨r41, rfl, h⟩
def QbV (C : Ctx) (p_s : Str) (p_prefix : Str) (K : Str → Heap → Prop) (H : Heap) : Prop :=
 Qaj C p_s p_prefix (fun r1 H2 =>
 ift r1
 (slS p_s (List.length p_prefix : Int) (List.length p_s : Int) fun t4 =>
 K t4 H2)
 (K p_s H2)) H
theorem QeP (C p_s p_prefix K H) (h : QbV C p_s p_prefix K H) : Qb0 C p_s p_prefix K H := by
 refine Ye Tryz.func262 rfl Tryz.ntmps262 [(0, sv p_s), (1, sv p_prefix)] (Zo (Za (GL.nil (GC.seq (Zo (Zm (Zm (Zc h Qb4 ?_))))))))
 rintro _ H2 ⟨r1, rfl, h⟩
 refine GL.nil (Yd h (fun u3 h => ?_) fun u3 h => ?_)
 refine Zo (Zm (Zm (Zr ?_)))
 obtain ⟨h5, h6, h7, t4, h8, h⟩ := h
 refine Zv (OV.sliceStr (s := p_s) h5 h6 h7 h8 rfl rfl rfl rfl rfl rfl) (Za (GL.nil ?_))
 exact Y1 I3 ⟨t4, rfl, h⟩
 refine GC.skip (Zo (Zm (Za (GL.nil ?_))))
 exact Y1 I3 ⟨p_s, rfl, h⟩
def Qe4 (C : Ctx) (p_chars : Str) (K : List Value → Bool → Heap → Prop) (H : Heap) : Prop :=
 nw ((List.replicate 256 (.bool false : Value))) (fun b1 H2 =>
 lp (α := Int) 0 H2 (fun x3 J4 H5 =>
 ift (decide ((x3 : Int) < (List.length p_chars : Int)))
 (ixs p_chars x3 fun c7 =>
 ift (decide (((c7.toNat : Int) : Int) ≥ 128))
 (ldC H5 256 (b1, 0) fun x11 =>
 stC 256 (b1, 0) x11 (fun H14 =>
 ldC H14 256 (b1, 0) fun x17 =>
 K x17 false H14) H5)
 (ixr (b1, 0) 256 (c7.toNat : Int) <|
 st ((b1, 0).1, (b1, 0).2 + ((c7.toNat : Int) : Int).toNat * 1) (.bool true) (fun H22 =>
 J4 (w .i64 (x3 + 1)) H22) H5))
 (ldC H5 256 (b1, 0) fun x23 =>
 stC 256 (b1, 0) x23 (fun H26 =>
 ldC H26 256 (b1, 0) fun x29 =>
 K x29 true H26) H5))) H
theorem Qh3 (C p_chars K H) (h : Qe4 C p_chars K H) : Qaf C p_chars K H := by
 refine Ye Tryz.func265 rfl Tryz.ntmps265 [(0, sv p_chars)] (Zo (GL.alloc (cs := (List.replicate 256 (.bool false : Value))) h trivial rfl rfl rfl ?_))
 intro b1 H2 h
 refine Za (GL.nil (GC.seq (Zo (Za (GL.nil (GC.block (Yp h (fun x3 => [(4, .int .i64 x3), (0, sv p_chars), (2, pv (some (b1, 0)))]) ?_)))))))
 intro x3 H5 J4 h
 refine GC.seq (Zo (Zm (Zm (Zr (Zi (.bool (decide ((x3 : Int) < (List.length p_chars : Int)))) (GL.nil (Yd h (fun u6 h => ?_) fun u6 h => ?_)))))))
 refine GC.skip (GC.seq (GC.block (Zo (Zm (Zm (Ys h fun c7 h => ?_))))))
 refine Za (GL.nil (GC.seq (Zo (Zm (Zi (.bool (decide (((c7.toNat : Int) : Int) ≥ 128))) (GL.nil (Yd h (fun u10 h => ?_) fun u10 h => ?_)))))))
 refine Zo ?_
 obtain ⟨x11, hl13, v12, h⟩ := h
 refine Zv (OV.loadT (p := (b1, 0)) (cs := x11) rfl rfl (by rw [hl13]; rfl) v12) ?_
 obtain ⟨hl15, h116, h⟩ := h
 refine GL.storeT (p := (b1, 0)) (vs := x11) h trivial rfl rfl h116 (by rw [hl15]; rfl) ?_
 intro H14 h
 refine Za (GL.nil ?_)
 obtain ⟨x17, hl19, v18, h⟩ := h
 exact GC.ret (fun _ _ hf hs => Qpr rfl (RV.cellT (p := (b1, 0)) (cs := x17) rfl rfl (by rw [hl19]; rfl) v18) (RV.tmp rfl) hf hs ⟨x17, false, rfl, h⟩)
 refine GC.skip (GC.region (Zm ?_))
 obtain ⟨ha20, hb21, h⟩ := h
 refine Zv (OV.indexAddrA (p := (b1, 0)) rfl rfl rfl rfl ha20 hb21) (GL.store (p := ((b1, 0).1, (b1, 0).2 + ((c7.toNat : Int) : Int).toNat * 1)) (v := .bool true) h trivial rfl rfl rfl rfl ?_)
 intro H22 h
 refine GL.nil_to (fun _ _ h => h) (GC.region (Zm (Zi (.int .i64 (w .i64 (x3 + 1))) (Za ?_))))
 exact Yj I3 (w .i64 (x3 + 1)) h
 refine GC.exit_to (fun _ _ h => h) (Zo ?_)
 obtain ⟨x23, hl25, v24, h⟩ := h
 refine Zv (OV.loadT (p := (b1, 0)) (cs := x23) rfl rfl (by rw [hl25]; rfl) v24) ?_
 obtain ⟨hl27, h128, h⟩ := h
 refine GL.storeT (p := (b1, 0)) (vs := x23) h trivial rfl rfl h128 (by rw [hl27]; rfl) ?_
 intro H26 h
 refine Za (GL.nil ?_)
 obtain ⟨x29, hl31, v30, h⟩ := h
 exact GC.ret (fun _ _ hf hs => Qpr rfl (RV.cellT (p := (b1, 0)) (cs := x29) rfl rfl (by rw [hl31]; rfl) v30) (RV.tmp rfl) hf hs ⟨x29, true, rfl, h⟩)
def QeC (C : Ctx) (p_s : Str) (p_as : Option (Nat × Nat)) (K : Str → Heap → Prop) (H : Heap) : Prop :=
 jn (α := Str) (fun x2 H3 =>
 K x2 H3)
 (fun J1 => lp (α := Str) p_s H (fun x5 J6 H7 =>
 ift (decide (((List.length x5 : Int) : Int) > 0))
 (ixs x5 0 fun c9 =>
 QaT C p_as (c9.toNat : Int) (fun r12 H13 =>
 ift (!r12)
 (J1 x5 H13)
 (slS x5 1 (List.length x5 : Int) fun t15 =>
 J6 t15 H13)) H7)
 (J1 x5 H7)))
theorem Qhw (C p_s p_as K H) (h : QeC C p_s p_as K H) : QcJ C p_s p_as K H := by
 refine Ye Tryz.func266 rfl Tryz.ntmps266 [(0, sv p_s), (1, pv p_as)] (Zo (Za (GL.nil ?_)))
 obtain ⟨J1, h, hR4⟩ := h
 refine GC.join (α := Str) J1 (fun x2 => [(0, sv x2)]) ?_ ?_
 refine GC.block (Yp h (fun x5 => [(0, sv x5), (1, pv p_as)]) ?_)
 intro x5 H7 J6 h
 refine GC.seq (Zo (Zm (Zr (Zi (.bool (decide (((List.length x5 : Int) : Int) > 0))) (GL.nil (Yd h (fun u8 h => ?_) fun u8 h => ?_))))))
 refine GC.skip (GC.block (GC.seq (Zo (Zm (Zm (Ys h fun c9 h => ?_))))))
 refine Zc h Qdi ?_
 rintro _ H13 ⟨r12, rfl, h⟩
 refine Zv (OV.not rfl) (GL.nil (Yd h (fun u14 h => ?_) fun u14 h => ?_))
 exact GC.exit_jump (fun _ _ h => h) x5 h ⟨rfl, trivial⟩
 refine GC.skip (GC.region (Zm ?_))
 obtain ⟨h16, h17, h18, t15, h19, h⟩ := h
 refine Zv (OV.sliceStr (s := x5) h16 h17 h18 h19 rfl rfl rfl rfl rfl rfl) (Za ?_)
 exact Yj I3 t15 h
 exact GC.exit_jump (fun _ _ h => h) x5 h ⟨rfl, trivial⟩
 intro x2 H3 h
 replace h := hR4 x2 H3 h
 refine Zo (Zm (Za (GL.nil ?_)))
 exact Y1 I3 ⟨x2, rfl, h⟩
def Qej (C : Ctx) (p_s : Str) (p_as : Option (Nat × Nat)) (K : Str → Heap → Prop) (H : Heap) : Prop :=
 jn (α := Str) (fun x2 H3 =>
 K x2 H3)
 (fun J1 => lp (α := Str) p_s H (fun x5 J6 H7 =>
 ift (decide (((List.length x5 : Int) : Int) > 0))
 (ixs x5 (w .i64 ((List.length x5 : Int) - 1)) fun c9 =>
 QaT C p_as (c9.toNat : Int) (fun r12 H13 =>
 ift (!r12)
 (J1 x5 H13)
 (slS x5 0 (w .i64 ((List.length x5 : Int) - 1)) fun t15 =>
 J6 t15 H13)) H7)
 (J1 x5 H7)))
theorem Qhb (C p_s p_as K H) (h : Qej C p_s p_as K H) : Qcp C p_s p_as K H := by
 refine Ye Tryz.func267 rfl Tryz.ntmps267 [(0, sv p_s), (1, pv p_as)] (Zo (Za (GL.nil ?_)))
 obtain ⟨J1, h, hR4⟩ := h
 refine GC.join (α := Str) J1 (fun x2 => [(0, sv x2)]) ?_ ?_
 refine GC.block (Yp h (fun x5 => [(0, sv x5), (1, pv p_as)]) ?_)
 intro x5 H7 J6 h
 refine GC.seq (Zo (Zm (Zr (Zi (.bool (decide (((List.length x5 : Int) : Int) > 0))) (GL.nil (Yd h (fun u8 h => ?_) fun u8 h => ?_))))))
 refine GC.skip (GC.block (GC.seq (Zo (Zm (Zm (Zm (Zr (Zi (.int .i64 (w .i64 ((List.length x5 : Int) - 1))) (Ys h fun c9 h => ?_)))))))))
 refine Zc h Qdi ?_
 rintro _ H13 ⟨r12, rfl, h⟩
 refine Zv (OV.not rfl) (GL.nil (Yd h (fun u14 h => ?_) fun u14 h => ?_))
 exact GC.exit_jump (fun _ _ h => h) x5 h ⟨rfl, trivial⟩
 refine GC.skip (GC.region (Zm (Zm (Zr (Zi (.int .i64 (w .i64 ((List.length x5 : Int) - 1))) ?_)))))
 obtain ⟨h16, h17, h18, t15, h19, h⟩ := h
 refine Zv (OV.sliceStr (s := x5) h16 h17 h18 h19 rfl rfl rfl rfl rfl rfl) (Za ?_)
 exact Yj I3 t15 h
 exact GC.exit_jump (fun _ _ h => h) x5 h ⟨rfl, trivial⟩
 intro x2 H3 h
 replace h := hR4 x2 H3 h
 refine Zo (Zm (Za (GL.nil ?_)))
 exact Y1 I3 ⟨x2, rfl, h⟩
def Qdm (C : Ctx) (p_as : Option (Nat × Nat)) (p_c : Int) (K : Bool → Heap → Prop) (H : Heap) : Prop :=
 nck p_as fun p1 =>
 ixr p1 256 p_c <|
 ldB H (p1.1, p1.2 + (p_c : Int).toNat * 1) fun x5 =>
 K x5 H
theorem Qge (C p_as p_c K H) (h : Qdm C p_as p_c K H) : QaT C p_as p_c K H := by
 refine Ye Tryz.func272 rfl Tryz.ntmps272 [(0, pv p_as), (1, .int .u8 p_c)] (Zo (Za (GL.nil (Zo (Zm (Zm ?_))))))
 obtain ⟨p1, hp2, h⟩ := h
 refine Zv (OV.nilCheck (q := p_as) rfl hp2) ?_
 obtain ⟨ha3, hb4, h⟩ := h
 refine Zv (OV.indexAddrA (p := p1) rfl rfl rfl rfl ha3 hb4) (Yl h fun x5 h => ?_)
 refine Za (GL.nil ?_)
 exact Y1 I3 ⟨x5, rfl, h⟩
end
end Sx
end
noncomputable section
set_option linter.unusedVariables false
namespace Go.Proofs
open Go.Shelf
def Tryz.lays173_ren : Go.Shelf.Ren := ⟨fun | 173 => 213 | 246 => 234 | 283 => 249 | 284 => 250 | 285 => 251 | 286 => 252 | 129 => 258 | 317 => 257 | 318 => 259 | 319 => 260 | 320 => 261 | 337 => 270 | 338 => 271 | n => n, fun | 2 => 2 | 3 => 3 | 9 => 9 | 4 => 4 | 171 => 248 | 0 => 0 | 53 => 249 | 37 => 83 | 5 => 5 | 173 => 252 | 212 => 259 | 51 => 254 | 20 => 20 | 213 => 260 | 46 => 38 | 232 => 274 | 233 => 275 | n => n, fun | 17 => 1 | 18 => 2 | 19 => 3 | n => n⟩
theorem Tryz.lays173 : Go.Proofs.LaysM.n173 Tryz.prog Tryz.lays173_ren := {
 mixed := by kernel_rfl
 f129 := Tryz.func258.trans (congrArg some (by kernel_rfl))
 f173 := Tryz.func213.trans (congrArg some (by kernel_rfl))
 f246 := Tryz.func234.trans (congrArg some (by kernel_rfl))
 f283 := Tryz.func249.trans (congrArg some (by kernel_rfl))
 f284 := Tryz.func250.trans (congrArg some (by kernel_rfl))
 f285 := Tryz.func251.trans (congrArg some (by kernel_rfl))
 f286 := Tryz.func252.trans (congrArg some (by kernel_rfl))
 f317 := Tryz.func257.trans (congrArg some (by kernel_rfl))
 f318 := Tryz.func259.trans (congrArg some (by kernel_rfl))
 f319 := Tryz.func260.trans (congrArg some (by kernel_rfl))
 f320 := Tryz.func261.trans (congrArg some (by kernel_rfl))
 f337 := Tryz.func270.trans (congrArg some (by kernel_rfl))
 f338 := Tryz.func271.trans (congrArg some (by kernel_rfl))
 t0 := Tryz.underlying0
 a0 := Tryz.isAgg0
 z0 := Tryz.sizeOf0
 v0 := Tryz.zeroValue0
 t2 := Tryz.underlying2
 a2 := Tryz.isAgg2
 z2 := Tryz.sizeOf2
 v2 := Tryz.zeroValue2
 t3 := Tryz.underlying3
 a3 := Tryz.isAgg3
 z3 := Tryz.sizeOf3
 v3 := Tryz.zeroValue3
 t4 := Tryz.underlying4
 a4 := Tryz.isAgg4
 z4 := Tryz.sizeOf4
 v4 := Tryz.zeroValue4
 t5 := Tryz.underlying5
 a5 := Tryz.isAgg5
 z5 := Tryz.sizeOf5
 v5 := Tryz.zeroValue5
 t9 := Tryz.underlying9
 a9 := Tryz.isAgg9
 z9 := Tryz.sizeOf9
 v9 := Tryz.zeroValue9
 t20 := Tryz.underlying20
 a20 := Tryz.isAgg20
 z20 := Tryz.sizeOf20
 v20 := Tryz.zeroValue20
 t37 := Tryz.underlying83
 a37 := Tryz.isAgg83
 z37 := Tryz.sizeOf83
 v37 := Tryz.zeroValue83
 t46 := Tryz.underlying38
 a46 := Tryz.isAgg38
 z46 := Tryz.sizeOf38
 v46 := Tryz.zeroValue38
 t51 := Tryz.underlying254
 a51 := Tryz.isAgg254
 z51 := Tryz.sizeOf254
 v51 := Tryz.zeroValue254
 t53 := Tryz.underlying249
 a53 := Tryz.isAgg249
 z53 := Tryz.sizeOf249
 v53 := Tryz.zeroValue249
 t171 := Tryz.underlying248
 a171 := Tryz.isAgg248
 z171 := Tryz.sizeOf248
 v171 := Tryz.zeroValue248
 t173 := Tryz.underlying252
 a173 := Tryz.isAgg252
 z173 := Tryz.sizeOf252
 v173 := Tryz.zeroValue252
 t212 := Tryz.underlying259
 a212 := Tryz.isAgg259
 z212 := Tryz.sizeOf259
 v212 := Tryz.zeroValue259
 t213 := Tryz.underlying260
 a213 := Tryz.isAgg260
 z213 := Tryz.sizeOf260
 t232 := Tryz.underlying274
 a232 := Tryz.isAgg274
 z232 := Tryz.sizeOf274
 v232 := Tryz.zeroValue274
 t233 := Tryz.underlying275
 a233 := Tryz.isAgg275
 z233 := Tryz.sizeOf275
 v233 := Tryz.zeroValue275
 g17 := by kernel_rfl
 g18 := by kernel_rfl
 g19 := by kernel_rfl
 i0 := by kernel_rfl
 i2 := by kernel_rfl
 i3 := by kernel_rfl
 i4 := by kernel_rfl
 i5 := by kernel_rfl
 i9 := by kernel_rfl
 i20 := by kernel_rfl
 i37 := by kernel_rfl
 i46 := by kernel_rfl
 i51 := by kernel_rfl
 i53 := by kernel_rfl
 i171 := by kernel_rfl
 i173 := by kernel_rfl
 i212 := by kernel_rfl
 i232 := by kernel_rfl
 i233 := by kernel_rfl
 m17 := by kernel_rfl
 m18 := by kernel_rfl
 m19 := by kernel_rfl }
end Go.Proofs
namespace Sx
open Go Go.Proofs Go.Stop Go.RowKit
/-- the table of powers, as it was laid -/
def PowT (C : Ctx) : Prop := ∃ t fr, C.old[(Tryz.lays173_ren.g 17)]? = some (.cells (Lib.pow10Tab.map fun z => Value.int .u64 z).toArray t fr)
/-- what writes numbers -/
structure FmtC (C : Ctx) : Prop where
 ok : ∀ {n : Int} {H : Heap} {K : Str → Heap → Prop}, -9223372036854775808 ≤ n → n ≤ 9223372036854775807 → K (Lib.itoa n) H → Qgr C n 10 K H
theorem St.more {C : Ctx} {w : World} {H : Heap} (h : St C w H) (o : Obj) : St C { w with heap := w.heap.push o } H := by
 by_cases hc : ∃ c t fr, o = .cells c t fr
 ·obtain ⟨c, t, fr, rfl⟩ := hc
  exact (h.push (o := .cells c t fr) (m := false) (g := .row c.toList) ⟨by simp, fun h => by cases h⟩).weaken (Heap.le_put h.fresh)
 ·exact (h.push (o := o) (m := false) (g := .obj o) ⟨rfl, fun c t fr e => hc ⟨c, t, fr, e⟩⟩).weaken (Heap.le_put h.fresh)
theorem St.growL {C : Ctx} {H : Heap} : ∀ (os : List Obj) {w : World}, St C w H → St C { w with heap := w.heap ++ os.toArray } H
 | [], w, h => by
  have e : w.heap ++ ([] : List Obj).toArray = w.heap := by simp
  rw [e]; exact h
 | o :: os, w, h => by
  have e : w.heap ++ (o :: os).toArray = w.heap.push o ++ os.toArray := by apply Array.ext'; simp
  have := St.growL os (h.more o)
  rw [e]; exact this
theorem St.drewN {C : Ctx} {H : Heap} {w : World} (h : St C w H) : ∀ k, St C (w.drewN k) H
 | 0 => h
 | k + 1 => (St.drewN h k).drew
theorem QuN {C : Ctx} (hT : PowT C) : FmtC C := ⟨fun {n H K} h0 h1 k => by
 intro w hw
 obtain ⟨t, fr, hg⟩ := hT
 have hlt := (Array.getElem?_eq_some_iff.1 hg).1
 refine (Any.strconv_FormatInt_10 Tryz.lays173 n h0 h1 w ?_).mono ?_
 ·unfold Lib.TabIs World.var?
  rw [Tryz.lays173.m17]
  simp only [Option.bind_some]
  rw [hw.old _ hlt, hg]
 ·rintro e w' ⟨rfl, k', os, rfl⟩
  have h2 := St.growL os.toList (hw.drewN k')
  rw [Array.toArray_toList] at h2
  exact ⟨_, H, rfl, h2, ⟨_, rfl, k⟩⟩⟩
theorem QqG {W : World} {name : String} (hg : Tryz.prog.globalNamed name = some (Tryz.lays173_ren.g 17)) : ∀ (i : Nat) {l : List (String × DataW Unit)} {ps : List MemPlace}, DataW.LaidVars Tryz.prog W l ps → l[i]? = some (name, Lib.tabData .u64 Lib.pow10Tab) → PowT (ctxOf W)
 | _, [], ps, _, hi => by simp at hi
 | 0, (n, d) :: r, ps, ⟨g, t, cs, fuel, p, q, h1, h2, h3, h4, h5, h6⟩, hi => by
  simp only [List.getElem?_cons_zero, Option.some.injEq, Prod.mk.injEq] at hi
  obtain ⟨rfl, rfl⟩ := hi
  obtain rfl := Option.some.inj (hg.symm.trans h1)
  have hT : (Tryz.prog.globals[(Tryz.lays173_ren.g 17)]?).map (·.type) = some 259 := by kernel_rfl
  obtain rfl := Option.some.inj (hT.symm.trans h2)
  have hc := Lib.cells_of_tab Tryz.underlying259 Tryz.underlying249 (by kernel_rfl) (by kernel_rfl) h4
  unfold World.var? at h3
  rw [h1] at h3
  simp only [Option.bind_some] at h3
  cases hb : W.heap[(Tryz.lays173_ren.g 17)]? with
  | none => rw [hb] at h3; cases h3
  | some o =>
   rw [hb] at h3
   cases o <;> simp only [reduceCtorEq, Option.some.injEq] at h3
   rename_i c ty fr
   subst h3
   refine ⟨ty, fr, ?_⟩
   show W.heap[(Tryz.lays173_ren.g 17)]? = _
   rw [hb, ← hc]
 | i + 1, (n, d) :: r, ps, ⟨g, t, cs, fuel, p, q, h1, h2, h3, h4, h5, h6⟩, hi => QqG hg i h5 (by simpa using hi)
theorem Qup {W : World} {name : String} {l : List (String × DataW Unit)} (h : laidMet Tryz.prog l W) (i : Nat) (hi : l[i]? = some (name, Lib.tabData .u64 Lib.pow10Tab)) (hg : Tryz.prog.globalNamed name = some (Tryz.lays173_ren.g 17)) : PowT (ctxOf W) := by
 obtain ⟨ps, h1, _⟩ := h
 exact QqG hg i h1 hi
end Sx
end

noncomputable section
set_option linter.unusedVariables false
set_option linter.unusedSimpArgs false
namespace Go.Proofs
open Go.Shelf
def Tryz.lays144_ren : Go.Shelf.Ren := ⟨fun | 144 => 129 | 143 => 182 | 219 => 219 | 217 => 239 | 225 => 240 | 224 => 241 | 267 => 242 | 266 => 253 | 314 => 254 | n => n, fun | 9 => 9 | 4 => 4 | 3 => 3 | 5 => 5 | 46 => 38 | 146 => 255 | 51 => 254 | n => n, fun | 1 => 0 | n => n⟩
theorem Tryz.lays144 : Go.Proofs.Lays.n144 Tryz.prog Tryz.lays144_ren := {
 mixed := by kernel_rfl
 f143 := Tryz.func182.trans (congrArg some (by kernel_rfl))
 f144 := Tryz.func129.trans (congrArg some (by kernel_rfl))
 f217 := Tryz.func239.trans (congrArg some (by kernel_rfl))
 f219 := Tryz.func219.trans (congrArg some (by kernel_rfl))
 f224 := Tryz.func241.trans (congrArg some (by kernel_rfl))
 f225 := Tryz.func240.trans (congrArg some (by kernel_rfl))
 f266 := Tryz.func253.trans (congrArg some (by kernel_rfl))
 f267 := Tryz.func242.trans (congrArg some (by kernel_rfl))
 f314 := Tryz.func254.trans (congrArg some (by kernel_rfl))
 t3 := Tryz.underlying3
 a3 := Tryz.isAgg3
 z3 := Tryz.sizeOf3
 v3 := Tryz.zeroValue3
 t4 := Tryz.underlying4
 a4 := Tryz.isAgg4
 z4 := Tryz.sizeOf4
 v4 := Tryz.zeroValue4
 t5 := Tryz.underlying5
 a5 := Tryz.isAgg5
 z5 := Tryz.sizeOf5
 v5 := Tryz.zeroValue5
 t9 := Tryz.underlying9
 a9 := Tryz.isAgg9
 z9 := Tryz.sizeOf9
 v9 := Tryz.zeroValue9
 t46 := Tryz.underlying38
 a46 := Tryz.isAgg38
 z46 := Tryz.sizeOf38
 v46 := Tryz.zeroValue38
 t51 := Tryz.underlying254
 a51 := Tryz.isAgg254
 z51 := Tryz.sizeOf254
 v51 := Tryz.zeroValue254
 t146 := Tryz.underlying255
 a146 := Tryz.isAgg255
 z146 := Tryz.sizeOf255
 v146 := Tryz.zeroValue255
 g1 := by kernel_rfl }
end Go.Proofs
namespace Sx
open Go Go.Proofs Go.Stop Go.RowKit
/-- the library's variable holds some number -/
def MaxC (C : Ctx) : Prop := 0 < C.old.size ∧ ∃ m, ∀ w : World, (∀ b : Nat, b < C.old.size → w.heap[b]? = C.old[b]?) → w.cell? ⟨0, 0, none⟩ = some (.int .i64 m)
theorem QnV {C : Ctx} {a b : Str} {H : Heap} {K : Bool → Heap → Prop} (hT : MaxC C) (hl : a.length < 4294967281) (k : K (Lib.contains a b) H) : QgR C a b K H := by
 intro w hw
 obtain ⟨_, m, hm⟩ := hT
 refine (Any.strings_Contains Tryz.lays144 ⟨a.toArray⟩ ⟨b.toArray⟩ m w (by show a.toArray.size < _; simpa using hl) (hm w hw.old)).mono ?_
 rintro e w' ⟨rfl, rfl⟩
 exact ⟨_, H, rfl, hw, _, rfl, by simpa using k⟩
theorem Quk {W : World} (h : W.ShapedOpen Tryz.prog) : MaxC (ctxOf W) := by
 obtain ⟨m, hm⟩ := cell_of_shapedOpen_int (g := 0) (t := 3) (zero := #[.int .i64 0]) (k := .i64) h (by decide +kernel) (by kernel_rfl) rfl (by kernel_rfl) (by kernel_rfl) Tryz.underlying3
 have hlt : 0 < W.heap.size := by
  rcases Nat.lt_or_ge 0 W.heap.size with h | h
  ·exact h
  ·simp [World.cell?, Array.getElem?_eq_none h] at hm
 refine ⟨hlt, m, fun w hw => ?_⟩
 have := hw 0 hlt
 simp only [World.cell?] at hm ⊢
 rw [this]; exact hm
end Sx
end

noncomputable section
set_option linter.unusedVariables false
set_option linter.unusedSimpArgs false
namespace Sx
open Go
inductive V where
 | mk (k n : Int) (s : Str) (l : List V)
namespace V
def k : V → Int | .mk k _ _ _ => k
def n : V → Int | .mk _ n _ _ => n
def s : V → Str | .mk _ _ s _ => s
def l : V → List V | .mk _ _ _ l => l
end V
mutual
def vsize : V → Nat
 | .mk _ _ _ l => vsizes l + 1
def vsizes : List V → Nat
 | [] => 0
 | v :: l => vsize v + vsizes l
end
theorem QpG : ∀ {l : List V} {v : V}, v ∈ l → vsize v ≤ vsizes l
 | w :: l, v, h => by
  simp only [vsizes]
  rcases List.mem_cons.1 h with rfl | h
  ·omega
  ·have := QpG h; omega
theorem QuB {v w : V} (h : w ∈ v.l) : vsize w < vsize v := by
 obtain ⟨k, n, s, l⟩ := v
 have := QpG (show w ∈ l from h)
 simp only [vsize]; omega
/-- by how great a value is -/
theorem V.rec_ {P : V → Prop} (h : ∀ v, (∀ w ∈ v.l, P w) → P v) (v : V) : P v := by
 have : ∀ n v, vsize v ≤ n → P v := by
  intro n
  induction n with
  | zero => intro v hv; obtain ⟨k, n, s, l⟩ := v; simp [vsize] at hv
  | succ n ih => intro v hv; exact h v fun w hw => ih w (by have := QuB hw; omega)
 exact this _ v (Nat.le_refl _)
mutual
def dep : V → Nat
 | .mk _ _ _ l => deps l + 1
def deps : List V → Nat
 | [] => 0
 | v :: l => max (dep v) (deps l)
end
theorem QuK (v : V) : dep v = deps v.l + 1 := by obtain ⟨k, n, s, l⟩ := v; rfl
theorem QkI : ∀ (a b : List V), deps (a ++ b) = max (deps a) (deps b)
 | [], b => by simp [deps]
 | v :: a, b => by simp only [List.cons_append, deps, QkI a b]; omega
theorem QrE {l : List V} {i : Nat} (h : i < l.length) : deps (l.take (i + 1)) = max (deps (l.take i)) (dep l[i]) := by
 rw [List.take_add_one, List.getElem?_eq_getElem h, Option.toList_some, QkI]; simp [deps]
theorem QrD : ∀ {l : List V} {v : V}, v ∈ l → dep v ≤ deps l
 | w :: l, v, h => by
  simp only [deps]
  rcases List.mem_cons.1 h with rfl | h
  ·omega
  ·have := QrD h; omega
def lowC (c : UInt8) : Bool := decide (97 ≤ c.toNat) && decide (c.toNat ≤ 122)
def nameC (c : UInt8) : Bool := lowC c || (decide (65 ≤ c.toNat) && decide (c.toNat ≤ 90)) || (decide (48 ≤ c.toNat) && decide (c.toNat ≤ 57)) || decide (c.toNat = 95)
def nameS (s : Str) : Bool := !s.isEmpty && decide (s.length ≤ 32) && lowC (s.headD 0) && s.all nameC
def digC (c : UInt8) : Bool := decide (48 ≤ c.toNat) && decide (c.toNat ≤ 57)
def cutD : Str → Option (Str × Str)
 | [] => none
 | c :: t => if c = 46 then some ([], t) else (cutD t).map fun p => (c :: p.1, p.2)
theorem QlD : ∀ (a b : Str), (46 : UInt8) ∉ a → cutD (a ++ 46 :: b) = some (a, b)
 | [], b, _ => by simp [cutD]
 | c :: a, b, h => by
  have h1 : c ≠ 46 := fun e => h (by rw [e]; exact List.mem_cons_self ..)
  simp only [List.cons_append, cutD, if_neg h1, QlD a b fun hh => h (List.mem_cons_of_mem _ hh)]; rfl
theorem QlE : ∀ (a : Str), (46 : UInt8) ∉ a → cutD a = none
 | [], _ => rfl
 | c :: a, h => by
  have h1 : c ≠ 46 := fun e => h (by rw [e]; exact List.mem_cons_self ..)
  simp only [cutD, if_neg h1, QlE a fun hh => h (List.mem_cons_of_mem _ hh)]; rfl
theorem Qk1 : ∀ (s : Str), (46 : UInt8) ∈ s → ∃ a b, s = a ++ 46 :: b ∧ 46 ∉ a
 | c :: s, h => by
  by_cases hc : c = 46
  ·exact ⟨[], s, by rw [hc]; rfl, by simp⟩
  ·obtain ⟨a, b, h1, h2⟩ := Qk1 s (by simpa [Ne.symm hc] using h)
   exact ⟨c :: a, b, by rw [h1]; rfl, by simp [h2, Ne.symm hc]⟩
def trueS : Str := [116, 114, 117, 101]
def falseS : Str := [102, 97, 108, 115, 101]
def namesS (s : Str) : Bool := if s = trueS ∨ s = falseS then false else match cutD s with
 | some (a, b) => nameS a && nameS b
 | none => nameS s
def unmin (s : Str) : Str := if s.head? = some 45 then s.tail else s
def numS (s : Str) : Bool := !(unmin s).isEmpty && (unmin s).all digC && !(decide ((unmin s).head? = some 48) && decide (s ≠ [48]))
def digits (s : Str) : Nat := (unmin s).length
def okN (k n : Int) (s : Str) (m : Nat) : Bool :=
 if k = 1 then (n == 0 || n == 1) && s.isEmpty && decide (m = 0)
 else if k = 2 then s.isEmpty && decide (m = 0)
 else if k = 3 then numS s && n == 0 && decide (m = 0)
 else if k = 4 then n == 0 && decide (m = 0)
 else if k = 5 then n == 0 && s.isEmpty && decide (m ≠ 1)
 else if k = 6 then n == 0 && namesS s
 else false
def fitN (k : Int) (s : Str) (m : Nat) : Bool :=
 if k = 3 then decide (digits s ≤ 200)
 else if k = 4 then decide (s.length ≤ 4096)
 else if k = 5 then decide (m ≤ 16)
 else if k = 6 then decide (m ≤ 8)
 else true
mutual
def formV : V → Bool
 | .mk k n s l => okN k n s l.length && formVs l
def formVs : List V → Bool
 | [] => true
 | v :: l => formV v && formVs l
end
mutual
def fitsV : V → Bool
 | .mk k n s l => fitN k s l.length && fitsVs l
def fitsVs : List V → Bool
 | [] => true
 | v :: l => fitsV v && fitsVs l
end
theorem Qqv (v : V) : formV v = (okN v.k v.n v.s v.l.length && formVs v.l) := by obtain ⟨k, n, s, l⟩ := v; rfl
theorem Qqu (v : V) : fitsV v = (fitN v.k v.s v.l.length && fitsVs v.l) := by obtain ⟨k, n, s, l⟩ := v; rfl
theorem Qk6 : ∀ (a b : List V), formVs (a ++ b) = (formVs a && formVs b)
 | [], b => by simp [formVs]
 | v :: a, b => by simp only [List.cons_append, formVs, Qk6 a b, Bool.and_assoc]
theorem Qk4 : ∀ (a b : List V), fitsVs (a ++ b) = (fitsVs a && fitsVs b)
 | [], b => by simp [fitsVs]
 | v :: a, b => by simp only [List.cons_append, fitsVs, Qk4 a b, Bool.and_assoc]
theorem Qp3 {l : List V} {i : Nat} (h : i < l.length) : formVs (l.take (i + 1)) = (formVs (l.take i) && formV l[i]) := by
 rw [List.take_add_one, List.getElem?_eq_getElem h, Option.toList_some, Qk6]; simp [formVs]
theorem Qp2 {l : List V} {i : Nat} (h : i < l.length) : fitsVs (l.take (i + 1)) = (fitsVs (l.take i) && fitsV l[i]) := by
 rw [List.take_add_one, List.getElem?_eq_getElem h, Option.toList_some, Qk4]; simp [fitsVs]
theorem QlM : ∀ {l : List V} {v : V}, v ∈ l → formV v = false → formVs l = false
 | w :: l, v, h, hv => by
  simp only [formVs]
  rcases List.mem_cons.1 h with rfl | h
  ·rw [hv]; rfl
  ·rw [QlM h hv, Bool.and_false]
theorem Qq0 : ∀ {l : List V} {v : V}, v ∈ l → formVs l = true → formV v = true := fun h hl => by
 cases hv : formV _ with
 | true => rfl
 | false => rw [QlM h hv] at hl; cases hl
def checkV (v : V) : Int := if dep v > 64 then 65 else if formV v = false then 4 else if fitsV v = false then 40 else 0
def mayV (v : V) : Bool := decide (checkV v = 0)
theorem QqD (v : V) : mayV v = true ↔ dep v ≤ 64 ∧ formV v = true ∧ fitsV v = true := by
 unfold mayV checkV
 rw [decide_eq_true_eq]
 by_cases h1 : dep v > 64
 ·simp [h1]; omega
 ·rw [if_neg h1]
  cases hf : formV v <;> cases hg : fitsV v <;> simp <;> omega
def sgn (a b : Int) : Int := if a < b then -1 else if b < a then 1 else 0
mutual
def sameV : V → V → Bool
 | .mk k n s l, .mk k' n' s' l' => k == k' && n == n' && decide (s = s') && sameVs l l'
def sameVs : List V → List V → Bool
 | [], [] => true
 | v :: l, w :: m => sameV v w && sameVs l m
 | _, _ => false
end
theorem Qtc {v w : V} (h : sameV v w = true) : v = w := by
 have key : ∀ v : V, ∀ w, sameV v w = true → v = w := by
  refine V.rec_ (P := fun v => ∀ w, sameV v w = true → v = w) fun v ih w h => ?_
  obtain ⟨k, n, s, l⟩ := v
  obtain ⟨k', n', s', l'⟩ := w
  simp only [sameV, Bool.and_eq_true, beq_iff_eq, decide_eq_true_eq] at h
  obtain ⟨⟨⟨rfl, rfl⟩, rfl⟩, h⟩ := h
  have : ∀ (l m : List V), (∀ v ∈ l, ∀ w, sameV v w = true → v = w) → sameVs l m = true → l = m := by
   intro l
   induction l with
   | nil => intro m _ h; cases m with
    | nil => rfl
    | cons _ _ => simp [sameVs] at h
   | cons v l ihl =>
    intro m hh h
    cases m with
    | nil => simp [sameVs] at h
    | cons w m =>
     simp only [sameVs, Bool.and_eq_true] at h
     rw [hh v (List.mem_cons_self ..) w h.1, ihl m (fun v hv => hh v (List.mem_cons_of_mem _ hv)) h.2]
  rw [this l l' ih h]
 exact key v w h
mutual
theorem Qn2 : ∀ v : V, sameV v v = true
 | .mk k n s l => by simp [sameV, Qnj l]
theorem Qnj : ∀ l : List V, sameVs l l = true
 | [] => rfl
 | v :: l => by simp [sameVs, Qn2 v, Qnj l]
end
theorem Qsq {v w : V} : sameV v w = true ↔ v = w := ⟨Qtc, fun h => h ▸ Qn2 v⟩
end Sx
end

noncomputable section
set_option linter.unusedVariables false
set_option linter.unusedSimpArgs false
set_option maxRecDepth 10000
namespace Sx
section
open Go Go.Proofs
theorem Qk5 {α β : Type} (f : α → List β) (z : Nat) (hz : ∀ x, (f x).length = z) : ∀ (l : List α) (i : Nat) (x : α), l[i]? = some x → ∀ (j : Nat) (v : β), (f x)[j]? = some v → (l.flatMap f)[i * z + j]? = some v
 | [], i, x, h, j, v, hv => by simp at h
 | y :: l, 0, x, h, j, v, hv => by
  simp at h; subst h
  rw [List.flatMap_cons, Nat.zero_mul, Nat.zero_add, List.getElem?_append_left (List.getElem?_eq_some_iff.1 hv).1]; exact hv
 | y :: l, i + 1, x, h, j, v, hv => by
  have := Qk5 f z hz l i x (by simpa using h) j v hv
  rw [List.flatMap_cons, List.getElem?_append_right (by rw [hz, Nat.add_mul]; omega), hz]
  rw [show (i + 1) * z + j - z = i * z + j by rw [Nat.add_mul]; omega]; exact this
abbrev TV := Qb
theorem TV.c_len (x : TV) : (Qb.c x).length = 4 := rfl
mutual
def VIs (H : Heap) : V → TV → Prop
 | .mk k n s l, x => x.Kind = k ∧ x.N = n ∧ x.S = s ∧ ∃ xs : List TV, rdsl H x.L (xs.flatMap Qb.c) ∧ x.L.len = xs.length ∧ VsAre H l xs
def VsAre (H : Heap) : List V → List TV → Prop
 | [], [] => True
 | v :: l, x :: xs => VIs H v x ∧ VsAre H l xs
 | [], _ :: _ => False
 | _ :: _, [] => False
end
/-- a row of values -/
def VRow (H : Heap) (t : Sl) (l : List V) : Prop := ∃ xs : List TV, rdsl H t (xs.flatMap Qb.c) ∧ t.len = xs.length ∧ VsAre H l xs
theorem Qfq {H : Heap} {v : V} {x : TV} : VIs H v x ↔ x.Kind = v.k ∧ x.N = v.n ∧ x.S = v.s ∧ VRow H x.L v.l := by obtain ⟨k, n, s, l⟩ := v; rfl
theorem VsAre.len {H : Heap} : ∀ {l : List V} {xs : List TV}, VsAre H l xs → l.length = xs.length
 | [], [], _ => rfl
 | v :: l, x :: xs, h => by have := VsAre.len h.2; simp [this]
theorem VsAre.get {H : Heap} : ∀ {l : List V} {xs : List TV}, VsAre H l xs → ∀ (i : Nat) (v : V) (x : TV), l[i]? = some v → xs[i]? = some x → VIs H v x
 | [], [], _, i, v, x, h, _ => by simp at h
 | v :: l, x :: xs, h, 0, v', x', h1, h2 => by simp at h1 h2; subst h1; subst h2; exact h.1
 | v :: l, x :: xs, h, i + 1, v', x', h1, h2 => VsAre.get h.2 i v' x' (by simpa using h1) (by simpa using h2)
mutual
theorem VIs.le {A B : Heap} (h : A.le B) : ∀ {v : V} {x : TV}, VIs A v x → VIs B v x
 | .mk k n s l, x, ⟨h1, h2, h3, xs, h4, h5, h6⟩ => ⟨h1, h2, h3, xs, QkO h h4, h5, VsAre.le h h6⟩
theorem VsAre.le {A B : Heap} (h : A.le B) : ∀ {l : List V} {xs : List TV}, VsAre A l xs → VsAre B l xs
 | [], [], _ => trivial
 | v :: l, x :: xs, ⟨h1, h2⟩ => ⟨VIs.le h h1, VsAre.le h h2⟩
end
theorem VRow.le {A B : Heap} {t : Sl} {l : List V} (h : VRow A t l) (hle : A.le B) : VRow B t l := by
 obtain ⟨xs, h1, h2, h3⟩ := h
 exact ⟨xs, QkO hle h1, h2, h3.le hle⟩
theorem VRow.len {H : Heap} {t : Sl} {l : List V} (h : VRow H t l) : t.len = l.length := by
 obtain ⟨xs, h1, h2, h3⟩ := h
 rw [h2, h3.len]
theorem VIs.kind {H : Heap} {v : V} {x : TV} (h : VIs H v x) : x.Kind = v.k := (Qfq.1 h).1
theorem VIs.num {H : Heap} {v : V} {x : TV} (h : VIs H v x) : x.N = v.n := (Qfq.1 h).2.1
theorem VIs.txt {H : Heap} {v : V} {x : TV} (h : VIs H v x) : x.S = v.s := (Qfq.1 h).2.2.1
theorem VIs.row {H : Heap} {v : V} {x : TV} (h : VIs H v x) : VRow H x.L v.l := (Qfq.1 h).2.2.2
/-- one of a row's values -/
theorem VRow.ld {A H : Heap} {t : Sl} {l : List V} (h : VRow A t l) (hle : A.le H) {i : Nat} {x : Int} {K : TV → Prop} (hx : x = i) (hi : i < l.length) (k : ∀ y, VIs A l[i] y → K y) : ixa t x fun p => ldT H Qb.c (p.1, p.2 + x.toNat * 4) K := by
 have hl := h.len
 obtain ⟨xs, h1, h2, h3⟩ := h
 have hi2 : i < xs.length := by omega
 have hg := List.getElem?_eq_getElem hi2
 subst hx
 refine QtA (QkO hle h1) (by omega) (by omega) (fun e => ?_) fun p _ hp => ⟨xs[i], ?_, k _ (h3.get i _ _ (List.getElem?_eq_getElem hi) hg)⟩
 ·have := Qk5 Qb.c 4 TV.c_len xs i _ hg 0 _ rfl
  rw [e] at this; simp at this
 ·refine QlR fun j v hj => ?_
  have := QoM hp _ _ (Qk5 Qb.c 4 TV.c_len xs i _ hg j v hj)
  rw [show p.2 + (i : Int).toNat * 4 + j = p.2 + (i * 4 + j) by omega]; exact this
mutual
def VB : V → Prop
 | .mk k n s l => (0 ≤ k ∧ k ≤ 255) ∧ (-9223372036854775808 ≤ n ∧ n ≤ 9223372036854775807) ∧ s.length ≤ 140737488355328 ∧ l.length ≤ 140737488355328 ∧ VBs l
def VBs : List V → Prop
 | [] => True
 | v :: l => VB v ∧ VBs l
end
theorem VBs.mem : ∀ {l : List V}, VBs l → ∀ {v}, v ∈ l → VB v
 | w :: l, h, v, hv => by
  rcases List.mem_cons.1 hv with rfl | hv
  ·exact h.1
  ·exact VBs.mem h.2 hv
theorem VB.k {v : V} (h : VB v) : 0 ≤ v.k ∧ v.k ≤ 255 := by obtain ⟨k, n, s, l⟩ := v; exact h.1
theorem VB.n {v : V} (h : VB v) : -9223372036854775808 ≤ v.n ∧ v.n ≤ 9223372036854775807 := by obtain ⟨k, n, s, l⟩ := v; exact h.2.1
theorem VB.s {v : V} (h : VB v) : v.s.length ≤ 140737488355328 := by obtain ⟨k, n, s, l⟩ := v; exact h.2.2.1
theorem VB.l {v : V} (h : VB v) : v.l.length ≤ 140737488355328 := by obtain ⟨k, n, s, l⟩ := v; exact h.2.2.2.1
theorem VB.ls {v : V} (h : VB v) : VBs v.l := by obtain ⟨k, n, s, l⟩ := v; exact h.2.2.2.2
theorem VB.at {v : V} (h : VB v) {i : Nat} (hi : i < v.l.length) : VB v.l[i] := h.ls.mem (List.getElem_mem hi)
section
variable {B : Heap} {b : Nat} {m : Bool} {x : TV}
theorem QqH (h : B b = some (m, .row (Qb.c x))) : rd B (b, 0) = some (.int .u8 x.Kind) ∧ rd B (b, 1) = some (.int .i64 x.N) ∧ rd B (b, 2) = some (sv x.S) ∧ rd B (b, 3) = some (slv x.L) :=
 ⟨by rw [QbU h]; rfl, by rw [QbU h]; rfl, by rw [QbU h]; rfl, by rw [QbU h]; rfl⟩
theorem bxK {K : Int → Prop} (h : B b = some (m, .row (Qb.c x))) (k : K x.Kind) : ldI B .u8 ((b, 0).1, (b, 0).2 + 0) K := ⟨_, (QqH h).1, k⟩
theorem bxN {K : Int → Prop} (h : B b = some (m, .row (Qb.c x))) (k : K x.N) : ldI B .i64 ((b, 0).1, (b, 0).2 + 1) K := ⟨_, (QqH h).2.1, k⟩
theorem bxS {K : Str → Prop} (h : B b = some (m, .row (Qb.c x))) (k : K x.S) : ldS B ((b, 0).1, (b, 0).2 + 2) K := ⟨_, (QqH h).2.2.1, k⟩
theorem bxL {K : Sl → Prop} (h : B b = some (m, .row (Qb.c x))) (k : K x.L) : ldL B ((b, 0).1, (b, 0).2 + 3) K := ⟨_, (QqH h).2.2.2, k⟩
theorem bxV {K : TV → Prop} (h : B b = some (m, .row (Qb.c x))) (k : K x) : ldT B Qb.c (b, 0) K := ⟨x, Qhu h fun j v hj => by simpa using hj, k⟩
end
section
variable {C : Ctx} {H : Heap}
theorem QnW {v : V} {x : TV} {H : Heap} {m : Nat} {K : Int → Heap → Prop} (hv : VIs H v x) (hB : VB v) (hm : m ≤ 1000) (k : ∀ r : Nat, r ≤ m + 1 → r ≤ dep v → (r = dep v ∨ m + 1 ≤ r) → K r H) : QbJ C x m K H := by
 refine V.rec_ (P := fun v => ∀ {x H} {m : Nat} {K : Int → Heap → Prop}, VIs H v x → VB v → m ≤ 1000 → (∀ r : Nat, r ≤ m + 1 → r ≤ dep v → (r = dep v ∨ m + 1 ≤ r) → K r H) → QbJ C x m K H) (fun v ih => ?_) v hv hB hm k
 clear hv hB hm k m
 intro x H m K hv hB hm k
 apply QbJ.gh
 apply QnG
 unfold Qky
 intro b1 n1
 have hr := hv.row
 have hl := hr.len
 have hbl := hB.l
 have hde := QuK v
 have hb1 : (H.put b1 (.row (Qb.c x))) b1 = some (true, .row (Qb.c x)) := Heap.put_same ..
 refine ⟨fun y H' => H.le H' ∧ ∃ r : Nat, y = (r : Int) ∧ r ≤ m ∧ r ≤ deps v.l ∧ (r = deps v.l ∨ m ≤ r), ?_, ?_⟩
 rotate_left
 ·rintro y H' ⟨hle, r, rfl, h0, h1, h2⟩
  rw [QM (by omega) (by omega)]
  have := k (r + 1) (by omega) (by omega) (by omega)
  exact ⟨H, Gh.le hle, by simpa using this⟩
 refine bxL hb1 ?_
 refine ⟨fun y H' => ∃ i r : Nat, y = ((r : Int), (i : Int)) ∧ i ≤ v.l.length ∧ H.le H' ∧ r ≤ m ∧ r ≤ deps (v.l.take i) ∧ (r = deps (v.l.take i) ∨ m ≤ r), fun y _ => v.l.length - y.2.toNat, ⟨0, 0, rfl, Nat.zero_le _, Heap.le_put n1, Nat.zero_le _, Nat.zero_le _, .inl (by simp [deps])⟩, ?_⟩
 rintro _ H' ⟨i, r, rfl, hi, hle, hr0, hr1, hr2⟩
 have hdti : deps (v.l.take i) ≤ deps v.l := by
  have h1 := QkI (v.l.take i) (v.l.drop i)
  rw [List.take_append_drop] at h1; omega
 dsimp only
 rw [hl]
 refine ift.of (fun h => ?_) (fun h => ?_)
 ·have hlt : i < v.l.length := by have := of_decide_eq_true h; omega
  have hmem := List.getElem_mem hlt
  have hdl := QrD hmem
  refine hr.ld hle rfl hlt fun y hy => ?_
  intro b20 n20
  refine ⟨_, Heap.put_same .., by simp [Qb.c], ?_⟩
  rw [Heap.put_put]
  have esp : splice (Qb.c Qb.zero) (b20, 0).2 (Qb.c y) = Qb.c y := rfl
  rw [esp]
  have hle2 := hle.trans (Heap.le_put n20 (g := .row (Qb.c y)) (m := true))
  refine ift.of (fun h => ?_) (fun h => ?_)
  ·have hge : m ≤ r := by have := of_decide_eq_true h; omega
   exact ⟨hle2, r, rfl, by omega, by omega, .inr hge⟩
  ·have hltm : r < m := by have := of_decide_eq_false h; omega
   refine bxV (Heap.put_same ..) ?_
   have em : w .i64 ((m : Int) - 1) = ((m - 1 : Nat) : Int) := by rw [QM (by omega) (by omega)]; omega
   rw [em]
   refine ih _ hmem (hy.le hle2) (hB.at hlt) (by omega) fun q hq0 hq1 hq2 => ?_
   have hdt := QrE hlt
   rw [QM (by omega) (by omega)]
   refine ⟨⟨i + 1, max q r, ?_, by omega, hle2, by omega, by omega, ?_⟩, by first | omega | (dsimp only; omega)⟩
   ·refine Prod.ext ?_ rfl
    dsimp only
    split <;> omega
   ·rw [hdt]; omega
 ·have hie : i = v.l.length := by have := of_decide_eq_false h; omega
  subst hie
  rw [List.take_length] at hr1 hr2
  exact ⟨hle, r, rfl, hr0, hr1, hr2⟩
end
end
section
open Go Go.Proofs
theorem u8eq (c : UInt8) (n : Nat) (hn : n < 256) : ((c.toNat : Int) == (n : Int)) = decide (c = UInt8.ofNat n) := by
 rw [Bool.eq_iff_iff]; simp only [decide_eq_true_eq, beq_iff_eq]
 constructor
 ·intro h; exact UInt8.toNat_inj.1 (by rw [UInt8.toNat_ofNat']; omega)
 ·rintro rfl; rw [UInt8.toNat_ofNat']; omega
theorem e48 (c : UInt8) : ((c.toNat : Int) == 48) = decide (c = 48) := u8eq c 48 (by omega)
theorem Qqj {α : Type} {p : α → Bool} {s : List α} {i : Nat} (h : i < s.length) : (s.take (i + 1)).all p = ((s.take i).all p && p s[i]) := by
 rw [List.take_add_one, List.getElem?_eq_getElem h, Option.toList_some, List.all_append]; simp
theorem Qtr {α : Type} {p : α → Bool} {s : List α} {x : α} (h : x ∈ s) (hp : p x = false) : s.all p = false := by
 rw [List.all_eq_false]; exact ⟨x, h, by simp [hp]⟩
theorem getE {s : Str} {i : Nat} (h : i < s.length) : s[((i : Nat) : Int).toNat]? = some s[i] := by simp [h]
theorem getL {s : Str} (h : 0 < s.length) {x : Int} (hx : x = (s.length : Int) - 1) : s[x.toNat]? = some (s.getLast (List.ne_nil_of_length_pos h)) := by
 subst hx
 have : ((s.length : Int) - 1).toNat = s.length - 1 := by omega
 rw [this, List.getElem?_eq_getElem (by omega), List.getLast_eq_getElem]
section
variable {C : Ctx} {H : Heap}
theorem Qlw {s : Str} {K : Bool → Heap → Prop} (hs : s.length ≤ 140737488355328) (k : K (nameS s) H) : QeA C s K H := by
 apply Qok
 unfold Qls
 refine ⟨fun b H' => H = H' ∧ b = (s.isEmpty || decide (s.length > 32) || decide ((s.headD 0).toNat < 97)), ?_, ?_⟩
 ·refine ift.of (fun h => ⟨rfl, ?_⟩) (fun h => ?_)
  ·simp only [Bool.or_eq_true, decide_eq_true_eq, beq_iff_eq] at h
   rcases h with rfl | h
   ·rfl
   ·have : decide (s.length > 32) = true := by rw [decide_eq_true_eq]; omega
    rw [this]; simp
  ·cases s with
   | nil => simp at h
   | cons c t =>
    refine ⟨c, by omega, rfl, rfl, ?_⟩
    simp only [Bool.or_eq_false_iff, decide_eq_false_iff_not] at h
    have : decide ((c :: t).length > 32) = false := by rw [decide_eq_false_iff_not]; omega
    rw [this]
    simp only [List.isEmpty_cons, Bool.false_or, List.headD_cons]
    exact (decide_eq_decide.2 (by omega) : decide ((c.toNat : Int) < 97) = decide (c.toNat < 97))
 rintro b _ ⟨rfl, rfl⟩
 refine ⟨fun b H' => H = H' ∧ b = (s.isEmpty || decide (s.length > 32) || !lowC (s.headD 0)), ?_, ?_⟩
 ·refine ift.of (fun h => ⟨rfl, ?_⟩) (fun h => ?_)
  ·simp only [Bool.or_eq_true, decide_eq_true_eq] at h
   rcases h with (h | h) | h
   ·rw [h]; rfl
   ·have : decide (s.length > 32) = true := by rw [decide_eq_true_eq]; omega
    rw [this]; simp
   ·have : lowC (s.headD 0) = false := by unfold lowC; rw [decide_eq_false (by omega)]; rfl
    rw [this]; simp
  ·simp only [Bool.or_eq_false_iff, decide_eq_false_iff_not] at h
   cases s with
   | nil => simp at h
   | cons c t =>
    refine ⟨c, by omega, rfl, rfl, ?_⟩
    have : decide ((c :: t).length > 32) = false := by rw [decide_eq_false_iff_not]; omega
    rw [this]
    simp only [List.isEmpty_cons, Bool.false_or, List.headD_cons] at h ⊢
    unfold lowC
    rw [decide_eq_true (by omega : 97 ≤ c.toNat), Bool.true_and, ← decide_not, decide_eq_decide]; omega
 rintro b _ ⟨rfl, rfl⟩
 refine ift.of (fun h => ?_) (fun h => ?_)
 ·have : nameS s = false := by
   unfold nameS
   simp only [Bool.or_eq_true, decide_eq_true_eq, Bool.not_eq_true'] at h
   rcases h with (h | h) | h
   ·rw [h]; rfl
   ·have : decide (s.length ≤ 32) = false := by rw [decide_eq_false_iff_not]; omega
    rw [this]; simp
   ·rw [h]; simp
  rw [this] at k; exact k
 have hn : nameS s = s.all nameC := by
  unfold nameS
  simp only [Bool.or_eq_false_iff, decide_eq_false_iff_not, Bool.not_eq_false'] at h
  have : decide (s.length ≤ 32) = true := by rw [decide_eq_true_eq]; omega
  rw [h.1.1, this, h.2]; simp
 refine ⟨fun x H' => ∃ i : Nat, x = (i : Int) ∧ i ≤ s.length ∧ H = H' ∧ (s.take i).all nameC = true, fun x _ => s.length - x.toNat, ⟨0, rfl, Nat.zero_le _, rfl, rfl⟩, ?_⟩
 rintro x _ ⟨i, rfl, hi, rfl, ha⟩
 refine ift.of (fun h => ?_) (fun h => ?_)
 ·have hlt : i < s.length := by have := of_decide_eq_true h; omega
  refine ⟨s[i], by omega, getE hlt, ?_⟩
  dsimp only
  have hm := List.getElem_mem hlt
  have hat := Qqj (p := nameC) hlt
  generalize s[i] = c at *
  have e : (!(((((decide ((c.toNat : Int) ≥ 97)) && (decide ((c.toNat : Int) ≤ 122))) || ((decide ((c.toNat : Int) ≥ 65)) && (decide ((c.toNat : Int) ≤ 90)))) || ((decide ((c.toNat : Int) ≥ 48)) && (decide ((c.toNat : Int) ≤ 57)))) || ((c.toNat : Int) == 95))) = !nameC c := by
   unfold nameC lowC
   have h0 : decide ((c.toNat : Int) ≥ 97) = decide (97 ≤ c.toNat) := by rw [decide_eq_decide]; omega
   have h01 : decide ((c.toNat : Int) ≤ 122) = decide (c.toNat ≤ 122) := by rw [decide_eq_decide]; omega
   have h1 : decide ((c.toNat : Int) ≥ 65) = decide (65 ≤ c.toNat) := by rw [decide_eq_decide]; omega
   have h2 : decide ((c.toNat : Int) ≤ 90) = decide (c.toNat ≤ 90) := by rw [decide_eq_decide]; omega
   have h3 : decide ((c.toNat : Int) ≥ 48) = decide (48 ≤ c.toNat) := by rw [decide_eq_decide]; omega
   have h4 : decide ((c.toNat : Int) ≤ 57) = decide (c.toNat ≤ 57) := by rw [decide_eq_decide]; omega
   have h5 : ((c.toNat : Int) == 95) = decide (c.toNat = 95) := by
    rw [Bool.eq_iff_iff]; simp only [beq_iff_eq, decide_eq_true_eq]; omega
   rw [h0, h01, h1, h2, h3, h4, h5]
  rw [e]
  refine ift.of (fun h => ?_) (fun h => ?_)
  ·rw [hn, Qtr hm (by simpa using h)] at k; exact k
  ·rw [QM (by omega) (by omega)]
   refine ⟨⟨i + 1, by omega, by omega, rfl, ?_⟩, by first | omega | (dsimp only; omega)⟩
   rw [hat, ha]; simpa using h
 ·have hie : i = s.length := by have := of_decide_eq_false h; omega
  rw [hie, List.take_length] at ha
  rw [hn, ha] at k; exact k
end
end
end Sx
end
