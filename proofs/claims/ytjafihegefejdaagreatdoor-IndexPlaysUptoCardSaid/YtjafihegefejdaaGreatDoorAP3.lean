/-
  Texts of this family, one behind the other: Sh, FmtI, SrtL, MapL, ValQ, ValU, ValP1, ValP2, ValP3, ValP4, ValP5, ValR, ValW, ValX, ValC1, ValO1, SortP, SortQ, ValM, ValN1, ShowQ, BldJ.
-/
import Derived.Test.YtjafihegefejdaaGreatDoorAP2
import Derived.Shelf.Strconv.Itoa3
import Derived.Shelf.SlSortCmp.NoneTotal
import Derived.Shelf.SlMaps.Clone
import Derived.Lib.ItoaNum
noncomputable section
set_option linter.unusedVariables false
set_option linter.unusedSimpArgs false
set_option maxRecDepth 10000
namespace Sx
section
set_option maxRecDepth 100000
open Go Go.Proofs
def Qh (C : Ctx) (p_s1 : Sl) (p_s2 : Sl) (p_cmp : Value) (K : Int → Heap → Prop) (H : Heap) : Prop :=
 lp (α := Int) 0 H (fun x1 J2 H3 =>
 ift (decide ((x1 : Int) < (Sl.len p_s1 : Int)))
 (ixa p_s1 x1 fun p5 =>
 ldT H3 Qa.c (p5.1, p5.2 + (x1 : Int).toNat * 4) fun x10 =>
 nw (Qa.c Qa.zero) (fun b12 H13 =>
 stT (b12, 0) (Qa.c x10) (fun H14 =>
 ift (decide ((x1 : Int) ≥ (Sl.len p_s2 : Int)))
 (K 1 H14)
 (ixa p_s2 x1 fun p16 =>
 ldT H14 Qa.c (p16.1, p16.2 + (x1 : Int).toNat * 4) fun x21 =>
 nw (Qa.c Qa.zero) (fun b23 H24 =>
 stT (b23, 0) (Qa.c x21) (fun H25 =>
 ldT H25 Qa.c (b12, 0) fun x26 =>
 ldT H25 Qa.c (b23, 0) fun x28 =>
 callU Tryz.prog C p_cmp [.agg (Qa.c x26).toArray, .agg (Qa.c x28).toArray] H25 (fun v H31 => ∃ (r30 : Int), v = .int .i64 r30 ∧
 ift ((r30 : Int) != 0)
 (K r30 H31)
 (J2 (w .i64 (x1 + 1)) H31))) H24) H14)) H13) H3)
 (ift (decide (((Sl.len p_s1 : Int) : Int) < (Sl.len p_s2 : Int)))
 (K (-1) H3)
 (K 0 H3)))
theorem QC (C p_s1 p_s2 p_cmp K H) (h : Qh C p_s1 p_s2 p_cmp K H) : Qb C p_s1 p_s2 p_cmp K H := by
 refine Ye Tryz.func103 rfl Tryz.ntmps103 [(0, slv p_s1), (1, slv p_s2), (2, p_cmp)] (Zo (Za (GL.nil (GC.seq (Zo (Zm (Zq (Zm (GL.nil (GC.block (Yp h (fun x1 => [(13, .int .i64 x1), (0, slv p_s1), (1, slv p_s2), (2, p_cmp), (11, slv p_s1), (12, .int .i64 (Sl.len p_s1 : Int))]) ?_)))))))))))
 intro x1 H3 J2 h
 refine Zo (Zi (.bool (decide ((x1 : Int) < (Sl.len p_s1 : Int)))) (GL.nil (GC.seq (Yd h (fun u4 h => ?_) fun u4 h => ?_))))
 refine GC.skip (GC.seq (GC.block (Zo (Zm (Yx h fun p5 h => ?_)))))
 obtain ⟨x10, v11, h⟩ := h
 refine Zv (OV.loadT rfl rfl rfl v11) (GL.alloc (cs := Qa.c Qa.zero) h trivial rfl rfl rfl ?_)
 intro b12 H13 h
 refine Za (GL.storeT (p := (b12, 0)) (vs := Qa.c x10) h trivial rfl rfl rfl rfl ?_)
 intro H14 h
 refine GL.nil (GC.seq (Zo (Zm (Zm (Zq (Zi (.bool (decide ((x1 : Int) ≥ (Sl.len p_s2 : Int)))) (GL.nil (Yd h (fun u15 h => ?_) fun u15 h => ?_))))))))
 refine Zo (Za (GL.nil ?_))
 exact Y1 I3 ⟨1, rfl, h⟩
 refine GC.skip (Zo (Zm (Zm (Yx h fun p16 h => ?_))))
 obtain ⟨x21, v22, h⟩ := h
 refine Zv (OV.loadT rfl rfl rfl v22) (GL.alloc (cs := Qa.c Qa.zero) h trivial rfl rfl rfl ?_)
 intro b23 H24 h
 refine GL.storeT (p := (b23, 0)) (vs := Qa.c x21) h trivial rfl rfl rfl rfl ?_
 intro H25 h
 refine GL.nil (Zo (Zm ?_))
 obtain ⟨x26, v27, h⟩ := h
 refine Zv (OV.loadT rfl rfl rfl v27) ?_
 obtain ⟨x28, v29, h⟩ := h
 refine Zv (OV.loadT rfl rfl rfl v29) (GL.callU (xv := p_cmp) (vs := [.agg (Qa.c x26).toArray, .agg (Qa.c x28).toArray]) h trivial rfl rfl rfl ?_)
 rintro _ H31 ⟨r30, rfl, h⟩
 refine Za (GL.nil (Zo (Zm (Zi (.bool ((r30 : Int) != 0)) (GL.nil (Yd h (fun u32 h => ?_) fun u32 h => ?_))))))
 refine Zo (Zm (Za (GL.nil ?_)))
 exact Y1 I3 ⟨r30, rfl, h⟩
 refine GC.skip_to (fun _ _ h => h) (GC.region (Zi (.int .i64 (w .i64 (x1 + 1))) (Zm ?_)))
 exact Yj I3 (w .i64 (x1 + 1)) h
 refine GC.exit_to (fun _ _ h => h) (GC.seq (Zo (Zm (Zq (Zm (Zq (Zi (.bool (decide (((Sl.len p_s1 : Int) : Int) < (Sl.len p_s2 : Int)))) (GL.nil ?_))))))))
 refine Yd h (fun u33 h => ?_) fun u33 h => ?_
 refine Zo (Za (GL.nil ?_))
 exact Y1 I3 ⟨(-1), rfl, h⟩
 refine GC.skip (Zo (Za (GL.nil ?_)))
 exact Y1 I3 ⟨0, rfl, h⟩
def Qev (C : Ctx) (p_x : Qa) (p_y : Qa) (K : Int → Heap → Prop) (H : Heap) : Prop :=
 nw (Qa.c p_x) (fun b1 H2 =>
 nw (Qa.c p_y) (fun b3 H4 =>
 ldT H4 Qa.c (b1, 0) fun x5 =>
 ldT H4 Qa.c (b3, 0) fun x7 =>
 Qx C x5 x7 (fun r9 H10 =>
 K r9 H10) H4) H2) H
theorem Qha (C p_x p_y K H) (h : Qev C p_x p_y K H) : Qav C p_x p_y K H := by
 refine Ye Tryz.func104 rfl Tryz.ntmps104 [(0, .agg (Qa.c p_x).toArray), (1, .agg (Qa.c p_y).toArray)] (Zo (GL.box (v := .agg (Qa.c p_x).toArray) (cs := Qa.c p_x) h trivial rfl rfl rfl ?_))
 intro b1 H2 h
 refine GL.box (v := .agg (Qa.c p_y).toArray) (cs := Qa.c p_y) h trivial rfl rfl rfl ?_
 intro b3 H4 h
 refine Za (GL.nil (Zo ?_))
 obtain ⟨x5, v6, h⟩ := h
 refine Zv (OV.loadT rfl rfl rfl v6) ?_
 obtain ⟨x7, v8, h⟩ := h
 refine Zv (OV.loadT rfl rfl rfl v8) (Zc h Qgm ?_)
 rintro _ H10 ⟨r9, rfl, h⟩
 refine Za (GL.nil ?_)
 exact Y1 I3 ⟨r9, rfl, h⟩
def Qdo (C : Ctx) (p_v : Qa) (p_w : Qa) (K : Int → Heap → Prop) (H : Heap) : Prop :=
 nw (Qa.c p_v) (fun b1 H2 =>
 nw (Qa.c p_w) (fun b3 H4 =>
 ldI H4 .u8 ((b1, 0).1, (b1, 0).2 + 0) fun x5 =>
 ldI H4 .u8 ((b3, 0).1, (b3, 0).2 + 0) fun x7 =>
 Qa7 C x5 x7 (fun r9 H10 =>
 ift ((r9 : Int) != 0)
 (K r9 H10)
 (ldI H10 .u8 ((b1, 0).1, (b1, 0).2 + 0) fun x12 =>
 ift ((x12 : Int) == 3)
 (ldS H10 ((b1, 0).1, (b1, 0).2 + 2) fun x15 =>
 ldS H10 ((b3, 0).1, (b3, 0).2 + 2) fun x17 =>
 Q5 C x15 x17 (fun r19 H20 =>
 K r19 H20) H10)
 (ift ((x12 : Int) == 4)
 (ldS H10 ((b1, 0).1, (b1, 0).2 + 2) fun x22 =>
 ldS H10 ((b3, 0).1, (b3, 0).2 + 2) fun x24 =>
 QL C x22 x24 (fun r26 H27 =>
 K r26 H27) H10)
 (dr H10 fun Hs28 =>
 ldI Hs28 .i64 ((b1, 0).1, (b1, 0).2 + 1) fun x30 =>
 ldI Hs28 .i64 ((b3, 0).1, (b3, 0).2 + 1) fun x32 =>
 ldS Hs28 ((b1, 0).1, (b1, 0).2 + 2) fun x34 =>
 ldS Hs28 ((b3, 0).1, (b3, 0).2 + 2) fun x36 =>
 ldL Hs28 ((b1, 0).1, (b1, 0).2 + 3) fun x38 =>
 ldL Hs28 ((b3, 0).1, (b3, 0).2 + 3) fun x40 =>
 Qa6 C x30 x32 (fun r43 H44 =>
 Heap.le Hs28 H44 ∧
 QL C x34 x36 (fun r46 H47 =>
 Heap.le Hs28 H47 ∧
 QbN C x38 x40 (fun r49 H50 =>
 Heap.le Hs28 H50 ∧
 nw ([.int .i64 r43, .int .i64 r46, .int .i64 r49]) (fun b52 H53 =>
 Heap.le Hs28 H53 ∧
 Qct C (Sl.of (some (b52, 0)) 3 3) (fun r55 H56 =>
 Heap.le Hs28 H56 ∧
 K r55 H56) H53) H50) H47) H44) H10)))) H4) H2) H
theorem Qgf (C p_v p_w K H) (h : Qdo C p_v p_w K H) : Qx C p_v p_w K H := by
 refine Ye Tryz.func105 rfl Tryz.ntmps105 [(0, .agg (Qa.c p_v).toArray), (1, .agg (Qa.c p_w).toArray)] (Zo (GL.box (v := .agg (Qa.c p_v).toArray) (cs := Qa.c p_v) h trivial rfl rfl rfl ?_))
 intro b1 H2 h
 refine GL.box (v := .agg (Qa.c p_w).toArray) (cs := Qa.c p_w) h trivial rfl rfl rfl ?_
 intro b3 H4 h
 refine Za (GL.nil (GC.seq (Zo (Zf (Yl h fun x5 h => ?_)))))
 refine Zf (Yl h fun x7 h => ?_)
 refine Zc h QeI ?_
 rintro _ H10 ⟨r9, rfl, h⟩
 refine Za (GL.nil (Zo (Zm (Zi (.bool ((r9 : Int) != 0)) (GL.nil (Yd h (fun u11 h => ?_) fun u11 h => ?_))))))
 refine Zo (Zm (Za (GL.nil ?_)))
 exact Y1 I3 ⟨r9, rfl, h⟩
 refine GC.skip (GC.seq (Zo (Zf (Yl h fun x12 h => ?_))))
 refine GL.nil (GC.block (Zo (Zi (.bool ((x12 : Int) == 3)) (Za (GL.nil (Yd h (fun u14 h => ?_) fun u14 h => ?_))))))
 refine Zo (Zf (Yl h fun x15 h => ?_))
 refine Zf (Yl h fun x17 h => ?_)
 refine Zc h QfO ?_
 rintro _ H20 ⟨r19, rfl, h⟩
 refine Za (GL.nil ?_)
 exact Y1 I3 ⟨r19, rfl, h⟩
 refine Zo (Zi (.bool ((x12 : Int) == 4)) (Za (GL.nil (Yd h (fun u21 h => ?_) fun u21 h => ?_))))
 refine Zo (Zf (Yl h fun x22 h => ?_))
 refine Zf (Yl h fun x24 h => ?_)
 refine Zc h QaI ?_
 rintro _ H27 ⟨r26, rfl, h⟩
 refine Za (GL.nil ?_)
 exact Y1 I3 ⟨r26, rfl, h⟩
 refine GC.skip_to (fun _ _ h => h) (GC.seq ?_)
 obtain ⟨Hs28, hle29, h⟩ := h
 refine GC.any (Hs := Hs28) (by kernel_rfl) hle29 (Zp 0 rfl Yf ?_)
 obtain ⟨x30, v31, h⟩ := h
 refine Zp 1 rfl (Yo v31) (Zp 2 rfl Yf ?_)
 obtain ⟨x32, v33, h⟩ := h
 refine Zp 3 rfl (Yo v33) (Zp 5 rfl Yf ?_)
 obtain ⟨x34, v35, h⟩ := h
 refine Zp 6 rfl (Yo v35) (Zp 7 rfl Yf ?_)
 obtain ⟨x36, v37, h⟩ := h
 refine Zp 8 rfl (Yo v37) (Zp 10 rfl Yf ?_)
 obtain ⟨x38, v39, h⟩ := h
 refine Zp 11 rfl (Yo v39) (Zp 12 rfl Yf ?_)
 obtain ⟨x40, v41, h⟩ := h
 refine Zp 13 rfl (Yo v41) (GA.eff 4 rfl (by kernel_rfl) (Zc h QeH ?_))
 rintro _ H44 ⟨r43, rfl, h⟩
 obtain ⟨hle42, h⟩ := h
 refine GA.back hle42 (GA.eff 9 rfl (by kernel_rfl) (Zc h QaI ?_))
 rintro _ H47 ⟨r46, rfl, h⟩
 obtain ⟨hle45, h⟩ := h
 refine GA.back hle45 (GA.eff 14 rfl (by kernel_rfl) (Zc h QfQ ?_))
 rintro _ H50 ⟨r49, rfl, h⟩
 obtain ⟨hle48, h⟩ := h
 refine GA.back hle48 (GA.eff 15 rfl (by kernel_rfl) (GL.buildSlice (cs := [.int .i64 r43, .int .i64 r46, .int .i64 r49]) h trivial rfl (vs := [(0, .int .i64 r43), (1, .int .i64 r46), (2, .int .i64 r49)]) rfl ⟨3, fun _ => by kernel_rfl⟩ ?_))
 intro b52 H53 h
 obtain ⟨hle51, h⟩ := h
 refine GA.back hle51 (GA.eff 16 rfl (by kernel_rfl) (Zc h QfD ?_))
 rintro _ H56 ⟨r55, rfl, h⟩
 obtain ⟨hle54, h⟩ := h
 refine GA.back hle54 (Zp 17 rfl Ya (GA.done (by kernel_rfl) (GL.nil ?_)))
 exact Y1 I3 ⟨r55, rfl, h⟩
def Qer (C : Ctx) (p_c : Int) (K : Bool → Heap → Prop) (H : Heap) : Prop :=
 K ((decide ((p_c : Int) ≥ 97)) && (decide ((p_c : Int) ≤ 122))) H
theorem Qg6 (C p_c K H) (h : Qer C p_c K H) : QbH C p_c K H := by
 refine Ye Tryz.func106 rfl Tryz.ntmps106 [(0, .int .u8 p_c)] (Zo (Za (GL.nil (Zo (Zm (Zi (.bool (decide ((p_c : Int) ≥ 97))) (Zm (GL.cut0 3 [(8, .bool ((decide ((p_c : Int) ≥ 97)) && (decide ((p_c : Int) ≤ 122))))] ?_ ?_))))))))
 rcases Zb (decide ((p_c : Int) ≥ 97)) with hc1 | hc1
 refine Zu hc1 Ym (Zu hc1 (OV.ibin (v := .bool (decide ((p_c : Int) ≤ 122))) rfl rfl rfl) (Zt hc1 ?_))
 exact GL.jump0 (fun _ _ h => h) () rfl ⟨(by rw [hc1]; rfl), trivial⟩
 refine Zk hc1 (Zk hc1 (Zn hc1 ?_))
 exact GL.jump0 (fun _ _ h => h) () rfl ⟨(by rw [hc1]; rfl), trivial⟩
 refine Za (GL.nil ?_)
 exact Y1 I3 ⟨((decide ((p_c : Int) ≥ 97)) && (decide ((p_c : Int) ≤ 122))), rfl, h⟩
def QgC (C : Ctx) (p_a : Qa) (p_b : Qa) (K : Int → Heap → Prop) (H : Heap) : Prop :=
 nw (Qa.c p_a) (fun b1 H2 =>
 nw (Qa.c p_b) (fun b3 H4 =>
 ldI H4 .u8 ((b1, 0).1, (b1, 0).2 + 0) fun x5 =>
 ldI H4 .u8 ((b3, 0).1, (b3, 0).2 + 0) fun x7 =>
 ift ((x5 : Int) != x7)
 (ldI H4 .u8 ((b1, 0).1, (b1, 0).2 + 0) fun x10 =>
 ldI H4 .u8 ((b3, 0).1, (b3, 0).2 + 0) fun x12 =>
 Qaj C (w .i64 x10) (w .i64 x12) (fun r14 H15 =>
 K r14 H15) H4)
 (ldI H4 .u8 ((b1, 0).1, (b1, 0).2 + 0) fun x16 =>
 ift ((x16 : Int) == 3)
 (ldS H4 ((b1, 0).1, (b1, 0).2 + 2) fun x19 =>
 ldS H4 ((b3, 0).1, (b3, 0).2 + 2) fun x21 =>
 QbK C x19 x21 (fun r23 H24 =>
 K r23 H24) H4)
 (ift ((x16 : Int) == 4)
 (ldS H4 ((b1, 0).1, (b1, 0).2 + 2) fun x26 =>
 ldS H4 ((b3, 0).1, (b3, 0).2 + 2) fun x28 =>
 Qbq C x26 x28 (fun r30 H31 =>
 K r30 H31) H4)
 (ift ((x16 : Int) == 5)
 (ldL H4 ((b1, 0).1, (b1, 0).2 + 3) fun x33 =>
 ldL H4 ((b3, 0).1, (b3, 0).2 + 3) fun x35 =>
 Qbc C x33 x35 (fun r37 H38 =>
 K r37 H38) H4)
 (ift ((x16 : Int) == 6)
 (ldS H4 ((b1, 0).1, (b1, 0).2 + 2) fun x40 =>
 ldS H4 ((b3, 0).1, (b3, 0).2 + 2) fun x42 =>
 Qbq C x40 x42 (fun r44 H45 =>
 ift ((r44 : Int) != 0)
 (K r44 H45)
 (ldL H45 ((b1, 0).1, (b1, 0).2 + 3) fun x47 =>
 ldL H45 ((b3, 0).1, (b3, 0).2 + 3) fun x49 =>
 Qbc C x47 x49 (fun r51 H52 =>
 K r51 H52) H45)) H4)
 (ldI H4 .i64 ((b1, 0).1, (b1, 0).2 + 1) fun x53 =>
 ldI H4 .i64 ((b3, 0).1, (b3, 0).2 + 1) fun x55 =>
 Qaj C x53 x55 (fun r57 H58 =>
 K r57 H58) H4)))))) H2) H
theorem Qjj (C p_a p_b K H) (h : QgC C p_a p_b K H) : Qal C p_a p_b K H := by
 refine Ye Tryz.func107 rfl Tryz.ntmps107 [(0, .agg (Qa.c p_a).toArray), (1, .agg (Qa.c p_b).toArray)] (Zo (GL.box (v := .agg (Qa.c p_a).toArray) (cs := Qa.c p_a) h trivial rfl rfl rfl ?_))
 intro b1 H2 h
 refine GL.box (v := .agg (Qa.c p_b).toArray) (cs := Qa.c p_b) h trivial rfl rfl rfl ?_
 intro b3 H4 h
 refine Za (GL.nil (GC.seq (Zo (Zf (Yl h fun x5 h => ?_)))))
 refine Zf (Yl h fun x7 h => ?_)
 refine Zi (.bool ((x5 : Int) != x7)) (GL.nil (Yd h (fun u9 h => ?_) fun u9 h => ?_))
 refine Zo (Zf (Yl h fun x10 h => ?_))
 refine Zv (OV.convInt rfl rfl rfl) (Zf (Yl h fun x12 h => ?_))
 refine Zv (OV.convInt rfl rfl rfl) (Zc h QaU ?_)
 rintro _ H15 ⟨r14, rfl, h⟩
 refine Za (GL.nil ?_)
 exact Y1 I3 ⟨r14, rfl, h⟩
 refine GC.skip (GC.seq (Zo (Zf (Yl h fun x16 h => ?_))))
 refine GL.nil (GC.block (Zo (Zi (.bool ((x16 : Int) == 3)) (Za (GL.nil (Yd h (fun u18 h => ?_) fun u18 h => ?_))))))
 refine Zo (Zf (Yl h fun x19 h => ?_))
 refine Zf (Yl h fun x21 h => ?_)
 refine Zc h QfI ?_
 rintro _ H24 ⟨r23, rfl, h⟩
 refine Za (GL.nil ?_)
 exact Y1 I3 ⟨r23, rfl, h⟩
 refine Zo (Zi (.bool ((x16 : Int) == 4)) (Za (GL.nil (Yd h (fun u25 h => ?_) fun u25 h => ?_))))
 refine Zo (Zf (Yl h fun x26 h => ?_))
 refine Zf (Yl h fun x28 h => ?_)
 refine Zc h Qc5 ?_
 rintro _ H31 ⟨r30, rfl, h⟩
 refine Za (GL.nil ?_)
 exact Y1 I3 ⟨r30, rfl, h⟩
 refine Zo (Zi (.bool ((x16 : Int) == 5)) (Za (GL.nil (Yd h (fun u32 h => ?_) fun u32 h => ?_))))
 refine Zo (Zf (Yl h fun x33 h => ?_))
 refine Zf (Yl h fun x35 h => ?_)
 refine Zc h QdK ?_
 rintro _ H38 ⟨r37, rfl, h⟩
 refine Za (GL.nil ?_)
 exact Y1 I3 ⟨r37, rfl, h⟩
 refine Zo (Zi (.bool ((x16 : Int) == 6)) (Za (GL.nil (Yd h (fun u39 h => ?_) fun u39 h => ?_))))
 refine Zo (Zf (Yl h fun x40 h => ?_))
 refine Zf (Yl h fun x42 h => ?_)
 refine Zc h Qc5 ?_
 rintro _ H45 ⟨r44, rfl, h⟩
 refine Za (GL.nil (GC.seq (Zo (Zm (Zi (.bool ((r44 : Int) != 0)) (GL.nil (Yd h (fun u46 h => ?_) fun u46 h => ?_)))))))
 refine Zo (Zm (Za (GL.nil ?_)))
 exact Y1 I3 ⟨r44, rfl, h⟩
 refine GC.skip (Zo (Zf (Yl h fun x47 h => ?_)))
 refine Zf (Yl h fun x49 h => ?_)
 refine Zc h QdK ?_
 rintro _ H52 ⟨r51, rfl, h⟩
 refine Za (GL.nil ?_)
 exact Y1 I3 ⟨r51, rfl, h⟩
 refine GC.skip_to (fun _ _ h => h) (Zo (Zf ?_))
 refine Yl h fun x53 h => ?_
 refine Zf (Yl h fun x55 h => ?_)
 refine Zc h QaU ?_
 rintro _ H58 ⟨r57, rfl, h⟩
 refine Za (GL.nil ?_)
 exact Y1 I3 ⟨r57, rfl, h⟩
def Qf1 (C : Ctx) (p_a : Int) (p_b : Int) (K : Int → Heap → Prop) (H : Heap) : Prop :=
 ift (decide ((p_a : Int) < p_b))
 (K (-1) H)
 (ift (decide ((p_a : Int) > p_b))
 (K 1 H)
 (K 0 H))
theorem Qiz (C p_a p_b K H) (h : Qf1 C p_a p_b K H) : Qaj C p_a p_b K H := by
 refine Ye Tryz.func108 rfl Tryz.ntmps108 [(0, .int .i64 p_a), (1, .int .i64 p_b)] (Zo (Za (GL.nil (GC.seq (Zo (Zm (Zm (Zi (.bool (decide ((p_a : Int) < p_b))) (GL.nil (Yd h (fun u1 h => ?_) fun u1 h => ?_))))))))))
 refine Zo (Za (GL.nil ?_))
 exact Y1 I3 ⟨(-1), rfl, h⟩
 refine GC.skip (GC.seq (Zo (Zm (Zm (Zi (.bool (decide ((p_a : Int) > p_b))) (GL.nil (Yd h (fun u2 h => ?_) fun u2 h => ?_)))))))
 refine Zo (Za (GL.nil ?_))
 exact Y1 I3 ⟨1, rfl, h⟩
 refine GC.skip (Zo (Za (GL.nil ?_)))
 exact Y1 I3 ⟨0, rfl, h⟩
def QbQ (C : Ctx) (p_s : Str) (p_prefix : Str) (K : Str → Heap → Prop) (H : Heap) : Prop :=
 Q0 C p_s p_prefix (fun r1 H2 =>
 K r1 H2) H
theorem Qeb (C p_s p_prefix K H) (h : QbQ C p_s p_prefix K H) : QaX C p_s p_prefix K H := by
 refine Ye Tryz.func109 rfl Tryz.ntmps109 [(0, sv p_s), (1, sv p_prefix)] (Zo (Za (GL.nil (Zo (Zm (Zm (Zc h Qbi ?_)))))))
 rintro _ H2 ⟨r1, rfl, h⟩
 refine Za (GL.nil ?_)
 exact Y1 I3 ⟨r1, rfl, h⟩
def Qet (C : Ctx) (p_s : Str) (p_cutset : Str) (K : Str → Heap → Prop) (H : Heap) : Prop :=
 ift ((p_s == ([] : Str)) || (p_cutset == ([] : Str)))
 (K p_s H)
 (jn (α := Bool) (fun b3 H10 =>
 ift b3
 (dr H10 fun Hs12 =>
 ixs p_cutset 0 fun c14 =>
 ixs p_cutset 0 fun c17 =>
 QdD C p_s (c14.toNat : Int) (fun r21 H22 =>
 Heap.le Hs12 H22 ∧
 Qd9 C r21 (c17.toNat : Int) (fun r24 H25 =>
 Heap.le Hs12 H25 ∧
 K r24 H25) H22) H10)
 (Qp C p_cutset (fun r26 r27 H28 =>
 nw ((List.replicate 256 (.bool false : Value))) (fun b29 H30 =>
 stC 256 (b29, 0) r26 (fun H31 =>
 ift r27
 (Qah C p_s (some (b29, 0)) (fun r35 H36 =>
 Qan C r35 (some (b29, 0)) (fun r37 H38 =>
 K r37 H38) H36) H31)
 (Qcr C p_s p_cutset (fun r39 H40 =>
 Qc1 C r39 p_cutset (fun r41 H42 =>
 K r41 H42) H40) H31)) H30) H28) H10))
 (fun J4 => ift (((List.length p_cutset : Int) : Int) == 1)
 (ixs p_cutset 0 fun c7 =>
 J4 (decide (((c7.toNat : Int) : Int) < 128)) H)
 (J4 false H)))
theorem Qg8 (C p_s p_cutset K H) (h : Qet C p_s p_cutset K H) : Qac C p_s p_cutset K H := by
 refine Ye Tryz.func110 rfl Tryz.ntmps110 [(0, sv p_s), (1, sv p_cutset)] (Zo (Za (GL.nil (GC.seq (Zo (Zm (Zv (OV.sbin (a := p_s) (b := ([] : Str)) (v := .bool (p_s == ([] : Str))) rfl rfl rfl) (Zm (GL.cut0 3 [(12, .bool ((p_s == ([] : Str)) || (p_cutset == ([] : Str)))), (0, sv p_s), (1, sv p_cutset)] ?_ ?_)))))))))
 rcases Zb (p_s == ([] : Str)) with u1 | u1
 refine Zk u1 (Zk u1 (Zt u1 ?_))
 exact GL.jump0 (fun _ _ h => h) () rfl ⟨(by rw [u1]; rfl), rfl, rfl, trivial⟩
 refine Zu u1 Ym (Zu u1 (OV.sbin (a := p_cutset) (b := ([] : Str)) (v := .bool (p_cutset == ([] : Str))) rfl rfl rfl) (Zn u1 ?_))
 exact GL.jump0 (fun _ _ h => h) () rfl ⟨(by rw [u1]; rfl), rfl, rfl, trivial⟩
 refine GL.nil (Yd h (fun u2 h => ?_) fun u2 h => ?_)
 refine Zo (Zm (Za (GL.nil ?_)))
 exact Y1 I3 ⟨p_s, rfl, h⟩
 refine GC.skip (GC.seq (Zo (Zm (Zr (Zi (.bool (((List.length p_cutset : Int) : Int) == 1)) (Zm ?_))))))
 obtain ⟨J4, h, hR5⟩ := h
 refine GL.cut (α := Bool) 4 J4 (fun b3 => [(21, .bool b3), (0, sv p_s), (1, sv p_cutset)]) ?_ ?_
 rcases h.em with ⟨u6, h⟩ | ⟨u6, h⟩
 refine Zu u6 Ym ?_
 obtain ⟨c7, ha8, hb9, h⟩ := h
 refine Zu u6 (OV.indexStr rfl rfl rfl ha8 hb9) (Zu u6 (OV.ibin (v := .bool (decide (((c7.toNat : Int) : Int) < 128))) rfl rfl rfl) (Zt u6 ?_))
 exact Yj I3 (decide (((c7.toNat : Int) : Int) < 128)) h
 refine Zk u6 (Zk u6 (Zk u6 (Zn u6 ?_)))
 exact Yj I3 false h
 intro b3 H10 h
 replace h := hR5 b3 H10 h
 refine GL.nil (Yd h (fun u11 h => ?_) fun u11 h => ?_)
 refine GC.seq ?_
 obtain ⟨Hs12, hle13, h⟩ := h
 refine GC.any (Hs := Hs12) (by kernel_rfl) hle13 (Zp 0 rfl Ym (Zp 1 rfl Ym ?_))
 obtain ⟨c14, ha15, hb16, h⟩ := h
 refine Zp 2 rfl (OV.indexStr rfl rfl rfl ha15 hb16) (Zp 4 rfl Ym ?_)
 obtain ⟨c17, ha18, hb19, h⟩ := h
 refine Zp 5 rfl (OV.indexStr rfl rfl rfl ha18 hb19) (GA.eff 3 rfl (by kernel_rfl) (Zc h Qdi ?_))
 rintro _ H22 ⟨r21, rfl, h⟩
 obtain ⟨hle20, h⟩ := h
 refine GA.back hle20 (GA.eff 6 rfl (by kernel_rfl) (Zc h QdP ?_))
 rintro _ H25 ⟨r24, rfl, h⟩
 obtain ⟨hle23, h⟩ := h
 refine GA.back hle23 (Zp 7 rfl Ya (GA.done (by kernel_rfl) (GL.nil ?_)))
 exact Y1 I3 ⟨r24, rfl, h⟩
 refine GC.skip (GC.seq (Zo (Zm (Zc h QdO ?_))))
 rintro _ H28 ⟨r26, r27, rfl, h⟩
 refine Zm (Yv (.agg (List.toArray r26)) rfl rfl (Yv (.bool r27) rfl rfl (GL.alloc (cs := (List.replicate 256 (.bool false : Value))) h trivial rfl rfl rfl ?_)))
 intro b29 H30 h
 obtain ⟨hl32, h133, h⟩ := h
 refine GL.storeT (p := (b29, 0)) (vs := r26) h trivial rfl rfl h133 (by rw [hl32]; rfl) ?_
 intro H31 h
 refine Za (GL.nil (Zo (Zm (GL.nil (Yd h (fun u34 h => ?_) fun u34 h => ?_)))))
 refine Zo (Zm (Zc h Qc8 ?_))
 rintro _ H36 ⟨r35, rfl, h⟩
 refine Zc h Qdh ?_
 rintro _ H38 ⟨r37, rfl, h⟩
 refine Za (GL.nil ?_)
 exact Y1 I3 ⟨r37, rfl, h⟩
 refine GC.skip (Zo (Zm (Zm (Zc h Qch ?_))))
 rintro _ H40 ⟨r39, rfl, h⟩
 refine Zm (Zc h Qcs ?_)
 rintro _ H42 ⟨r41, rfl, h⟩
 refine Za (GL.nil ?_)
 exact Y1 I3 ⟨r41, rfl, h⟩
def QaK (C : Ctx) (p_s : Str) (p_sep : Str) (K : Str → Str → Bool → Heap → Prop) (H : Heap) : Prop :=
 QN C p_s p_sep (fun r1 H2 =>
 ift (decide ((r1 : Int) ≥ 0))
 (slS p_s 0 r1 fun t4 =>
 slS p_s (w .i64 (r1 + (List.length p_sep : Int))) (List.length p_s : Int) fun t10 =>
 K t4 t10 true H2)
 (K p_s [] false H2)) H
theorem Qb8 (C p_s p_sep K H) (h : QaK C p_s p_sep K H) : QaW C p_s p_sep K H := by
 refine Ye Tryz.func111 rfl Tryz.ntmps111 [(0, sv p_s), (1, sv p_sep)] (Zo (Za (Za (Za (GL.nil (GC.seq (Zo (Zm (Zm (Zc h QbV ?_))))))))))
 rintro _ H2 ⟨r1, rfl, h⟩
 refine Za (GL.nil (Zo (Zm (Zi (.bool (decide ((r1 : Int) ≥ 0))) (GL.nil (Yd h (fun u3 h => ?_) fun u3 h => ?_))))))
 refine GC.seq (GC.draw (by kernel_rfl) (by kernel_rfl) (GQ.val trivial rfl (OV.move (v := sv p_s) rfl) (GQ.val trivial rfl (OV.move (v := .int .i64 r1) rfl) ?_)))
 obtain ⟨h5, h6, h7, t4, h8, h⟩ := h
 refine GQ.val trivial rfl (OV.sliceStr (s := p_s) h5 h6 h7 h8 rfl rfl rfl rfl rfl rfl) (GQ.val trivial rfl (OV.move (v := sv p_s) rfl) (GQ.val trivial rfl (OV.move (v := .int .i64 r1) rfl) (GQ.val trivial rfl (OV.move (v := sv p_sep) rfl) (GQ.val trivial rfl (OV.lenStr (s := p_sep) rfl rfl) (GQ.val trivial rfl (OV.ibin (v := .int .i64 (w .i64 (r1 + (List.length p_sep : Int)))) rfl rfl rfl) ?_)))))
 obtain ⟨h11, h12, h13, t10, h14, h⟩ := h
 refine GQ.val trivial rfl (OV.sliceStr (s := p_s) h11 h12 h13 h14 rfl rfl rfl rfl rfl rfl) (GQ.val trivial rfl (OV.assign (v := sv t4) rfl) (GQ.val trivial rfl (OV.assign (v := sv t10) rfl) (GQ.val trivial rfl (OV.assign (v := .bool true) rfl) (GQ.nil (GL.nil ?_)))))
 exact Y3 I3 ⟨t4, t10, true, rfl, h⟩
 refine GC.skip (Zo (Zm (Za (Za (Za (GL.nil ?_))))))
 exact Y3 I3 ⟨p_s, [], false, rfl, h⟩
def Qem (C : Ctx) (p_p : Option (Nat × Nat)) (p_n : Int) (K : Heap → Prop) (H : Heap) : Prop :=
 jn (α := Int) (fun x2 H3 =>
 Qae C p_p (decide ((p_n : Int) < 0)) (fun H6 =>
 QaO C p_p 128 (w .u64 x2) (fun H7 =>
 Qae C p_p (decide ((p_n : Int) < 0)) (fun H8 =>
 K H8) H7) H6) H3)
 (fun J1 => ift (decide ((p_n : Int) < 0))
 (J1 (bXor .i64 (-1) p_n) H)
 (J1 p_n H))
theorem Qg1 (C p_p p_n K H) (h : Qem C p_p p_n K H) : QcX C p_p p_n K H := by
 refine Ye Tryz.func112 rfl Tryz.ntmps112 [(0, pv p_p), (1, .int .i64 p_n)] (Zo (Zm (Zi (.bool (decide ((p_n : Int) < 0))) (Za (GL.nil ?_)))))
 obtain ⟨J1, h, hR4⟩ := h
 refine GC.join (α := Int) J1 (fun x2 => [(1, .int .i64 x2), (0, pv p_p), (4, .bool (decide ((p_n : Int) < 0)))]) ?_ ?_
 refine Zo (Zm (GL.nil (Yd h (fun u5 h => ?_) fun u5 h => ?_)))
 refine GC.region (Zm (Zv (OV.iun (v := .int .i64 (bXor .i64 (-1) p_n)) rfl rfl) (Za ?_)))
 exact Yj I3 (bXor .i64 (-1) p_n) h
 exact Yk I3 p_n h
 intro x2 H3 h
 replace h := hR4 x2 H3 h
 refine Zo (Zm (Zm (Zc h Qa4 ?_)))
 rintro _ H6 ⟨rfl, h⟩
 refine GL.nil (Zo (Zm (Zm (Zv (OV.convInt rfl rfl rfl) (Zc h Qcx ?_)))))
 rintro _ H7 ⟨rfl, h⟩
 refine GL.nil (GC.region (Zm (Zm (Zc h Qa4 ?_))))
 rintro _ H8 ⟨rfl, h⟩
 exact GL.ends (fun _ _ hf hs => Qv rfl hf hs ⟨rfl, h⟩)
def QbZ (C : Ctx) (p_s : Str) (p_prefix : Str) (K : Str → Bool → Heap → Prop) (H : Heap) : Prop :=
 Qad C p_s p_prefix (fun r1 r2 H3 =>
 K r1 r2 H3) H
theorem QeF (C p_s p_prefix K H) (h : QbZ C p_s p_prefix K H) : Qba C p_s p_prefix K H := by
 refine Ye Tryz.func113 rfl Tryz.ntmps113 [(0, sv p_s), (1, sv p_prefix)] (Zo (Za (Za (GL.nil (Zo (Zm (Zm (Zc h Qbt ?_))))))))
 rintro _ H3 ⟨r1, r2, rfl, h⟩
 refine Yv (sv r1) rfl rfl (Yv (.bool r2) rfl rfl (Za (Za (GL.nil ?_))))
 exact Y2 I3 ⟨r1, r2, rfl, h⟩
def Qd3 (C : Ctx) (p_p : Option (Nat × Nat)) (p_is : Bool) (K : Heap → Prop) (H : Heap) : Prop :=
 ift p_is
 (nck p_p fun p2 =>
 ldI H .u8 (p2.1, p2.2 + 1) fun x4 =>
 nck p_p fun p6 =>
 st (p6.1, p6.2 + 1) (.int .u8 (bXor .u8 x4 255)) (fun H8 =>
 K H8) H)
 (K H)
theorem QgH (C p_p p_is K H) (h : Qd3 C p_p p_is K H) : Qae C p_p p_is K H := by
 refine Ye Tryz.func114 rfl Tryz.ntmps114 [(0, pv p_p), (1, .bool p_is)] (Zo (Zm (GL.nil (Yd h (fun hc1 h => ?_) fun hc1 h => ?_))))
 refine GC.region (Zm ?_)
 obtain ⟨p2, hp3, h⟩ := h
 refine Zv (OV.nilCheck (q := p_p) rfl hp3) (Zf (Yl h fun x4 h => ?_))
 refine Zi (.int .u8 (bXor .u8 x4 255)) ?_
 obtain ⟨p6, hp7, h⟩ := h
 refine Zv (OV.nilCheck (q := p_p) rfl hp7) (Zf (GL.store (p := (p6.1, p6.2 + 1)) (v := .int .u8 (bXor .u8 x4 255)) h trivial rfl rfl rfl rfl ?_))
 intro H8 h
 exact GL.ends (fun _ _ hf hs => Qv rfl hf hs ⟨rfl, h⟩)
 exact GC.ends (fun _ _ hf hs => Qv rfl hf hs ⟨rfl, h⟩)
def QcH (C : Ctx) (p_p : Option (Nat × Nat)) (p_first : Int) (p_u : Int) (K : Heap → Prop) (H : Heap) : Prop :=
 QbB C p_u (fun r1 H2 =>
 nw ([.int .u8 (w .u8 (p_first + (w .u8 (w .i64 (Int.tdiv (w .i64 (r1 + 7)) 8)))))]) (fun b3 H4 =>
 Qk C p_p (Sl.of (some (b3, 0)) 1 1) (fun H5 =>
 lp (α := Int) (w .i64 (Int.tdiv (w .i64 (r1 + 7)) 8)) H5 (fun x6 J7 H8 =>
 ift (decide ((x6 : Int) > 0))
 (0 ≤ (w .i64 (8 * (w .i64 (x6 - 1)))) ∧
 nw ([.int .u8 (w .u8 (sShr .u64 p_u (w .i64 (8 * (w .i64 (x6 - 1))))))]) (fun b11 H12 =>
 Qk C p_p (Sl.of (some (b11, 0)) 1 1) (fun H13 =>
 J7 (w .i64 (x6 - 1)) H13) H12) H8)
 (K H8))) H4) H2) H
theorem Qfl (C p_p p_first p_u K H) (h : QcH C p_p p_first p_u K H) : QaO C p_p p_first p_u K H := by
 refine Ye Tryz.func115 rfl Tryz.ntmps115 [(0, pv p_p), (1, .int .u8 p_first), (2, .int .u64 p_u)] (Zo (Zm (Zc h QfH ?_)))
 rintro _ H2 ⟨r1, rfl, h⟩
 refine Zi (.int .i64 (w .i64 (r1 + 7))) (Zv (OV.quo rfl rfl (by decide)) (Za (GL.nil (Zo (Zm (Zm (Zm (Zv (OV.convInt rfl rfl rfl) (Zi (.int .u8 (w .u8 (p_first + (w .u8 (w .i64 (Int.tdiv (w .i64 (r1 + 7)) 8)))))) (GL.buildSlice (cs := [.int .u8 (w .u8 (p_first + (w .u8 (w .i64 (Int.tdiv (w .i64 (r1 + 7)) 8)))))]) h trivial rfl (vs := [(0, .int .u8 (w .u8 (p_first + (w .u8 (w .i64 (Int.tdiv (w .i64 (r1 + 7)) 8))))))]) rfl ⟨5, fun _ => by kernel_rfl⟩ ?_))))))))))
 intro b3 H4 h
 refine Zc h Qq ?_
 rintro _ H5 ⟨rfl, h⟩
 refine GL.nil (GC.block (Yp h (fun x6 => [(6, .int .i64 x6), (0, pv p_p), (2, .int .u64 p_u)]) ?_))
 intro x6 H8 J7 h
 refine GC.seq (Zo (Zm (Zi (.bool (decide ((x6 : Int) > 0))) (GL.nil (Yd h (fun hc9 h => ?_) fun hc9 h => ?_)))))
 refine GC.skip (GC.seq (GC.block (GC.region (Zm (Zm (Zm (Zi (.int .i64 (w .i64 (x6 - 1))) (Zi (.int .i64 (w .i64 (8 * (w .i64 (x6 - 1))))) ?_))))))))
 obtain ⟨hb10, h⟩ := h
 refine Zv (OV.shr rfl rfl hb10) (Zv (OV.convInt rfl rfl rfl) (GL.buildSlice (cs := [.int .u8 (w .u8 (sShr .u64 p_u (w .i64 (8 * (w .i64 (x6 - 1))))))]) h trivial rfl (vs := [(0, .int .u8 (w .u8 (sShr .u64 p_u (w .i64 (8 * (w .i64 (x6 - 1)))))))]) rfl ⟨5, fun _ => by kernel_rfl⟩ ?_))
 intro b11 H12 h
 refine Zc h Qq ?_
 rintro _ H13 ⟨rfl, h⟩
 refine GL.nil_to (fun _ _ h => h) (GC.region (Zm (Zi (.int .i64 (w .i64 (x6 - 1))) (Za ?_))))
 exact Yj I3 (w .i64 (x6 - 1)) h
 exact GC.exit_ends (fun _ _ hf hs => Qv rfl hf hs ⟨rfl, h⟩)
def Qd5 (C : Ctx) (p_p : Option (Nat × Nat)) (p_s : Str) (K : Heap → Prop) (H : Heap) : Prop :=
 lp (α := Int) 0 H (fun x1 J2 H3 =>
 ift (decide ((x1 : Int) < (List.length p_s : Int)))
 (jn (α := Unit) (fun x6 H7 =>
 J2 (w .i64 (x1 + 1)) H7)
 (fun J5 => ixs p_s x1 fun c9 =>
 nw ([.int .u8 (c9.toNat : Int)]) (fun b12 H13 =>
 Qk C p_p (Sl.of (some (b12, 0)) 1 1) (fun H14 =>
 ixs p_s x1 fun c15 =>
 ift (((c15.toNat : Int) : Int) == 0)
 (nw ([.int .u8 255]) (fun b19 H20 =>
 Qk C p_p (Sl.of (some (b19, 0)) 1 1) (fun H21 =>
 J5 () H21) H20) H14)
 (J5 () H14)) H13) H3))
 (nw ([.int .u8 0, .int .u8 0]) (fun b22 H23 =>
 Qk C p_p (Sl.of (some (b22, 0)) 2 2) (fun H24 =>
 K H24) H23) H3))
theorem QgJ (C p_p p_s K H) (h : Qd5 C p_p p_s K H) : Qbo C p_p p_s K H := by
 refine Ye Tryz.func116 rfl Tryz.ntmps116 [(0, pv p_p), (1, sv p_s)] (GC.seq (Zo (Zm (Zr (Zm (GL.nil (GC.block (Yp h (fun x1 => [(7, .int .i64 x1), (0, pv p_p), (1, sv p_s), (6, .int .i64 (List.length p_s : Int))]) ?_))))))))
 intro x1 H3 J2 h
 refine Zo (Zi (.bool (decide ((x1 : Int) < (List.length p_s : Int)))) (GL.nil (GC.seq (Yd h (fun hc4 h => ?_) fun hc4 h => ?_))))
 refine GC.skip ?_
 obtain ⟨J5, h, hR8⟩ := h
 refine GC.join (α := Unit) J5 (fun _ => [(0, pv p_p), (1, sv p_s), (6, .int .i64 (List.length p_s : Int)), (7, .int .i64 x1)]) ?_ ?_
 refine GC.block (Zo (Zm (Za (GL.nil (Zo (Zm (Zm (Zm (Ys h fun c9 h => ?_)))))))))
 refine GL.buildSlice (cs := [.int .u8 (c9.toNat : Int)]) h trivial rfl (vs := [(0, .int .u8 (c9.toNat : Int))]) rfl ⟨5, fun _ => by kernel_rfl⟩ ?_
 intro b12 H13 h
 refine Zc h Qq ?_
 rintro _ H14 ⟨rfl, h⟩
 refine GL.nil (Zo (Zm (Zm (Ys h fun c15 h => ?_))))
 refine Zi (.bool (((c15.toNat : Int) : Int) == 0)) (GL.nil (Yd h (fun hc18 h => ?_) fun hc18 h => ?_))
 refine GC.region (Zm (GL.buildSlice (cs := [.int .u8 255]) h trivial rfl (vs := [(0, .int .u8 255)]) rfl ⟨5, fun _ => by kernel_rfl⟩ ?_))
 intro b19 H20 h
 refine Zc h Qq ?_
 rintro _ H21 ⟨rfl, h⟩
 exact Yj I3 () h
 exact Yk I3 () h
 intro x6 H7 h
 replace h := hR8 x6 H7 h
 refine GC.region (Zi (.int .i64 (w .i64 (x1 + 1))) (Zm ?_))
 exact Yj I3 (w .i64 (x1 + 1)) h
 refine GC.exit_to (fun _ _ h => h) (GC.region (Zm (GL.buildSlice (cs := [.int .u8 0, .int .u8 0]) h trivial rfl (vs := [(0, .int .u8 0), (1, .int .u8 0)]) rfl ⟨5, fun _ => by kernel_rfl⟩ ?_)))
 intro b22 H23 h
 refine Zc h Qq ?_
 rintro _ H24 ⟨rfl, h⟩
 exact GL.ends (fun _ _ hf hs => Qv rfl hf hs ⟨rfl, h⟩)
def QJ (C : Ctx) (p_s : Sl) (p_f : Value) (K : Int → Heap → Prop) (H : Heap) : Prop :=
 lp (α := Int) 0 H (fun x1 J2 H3 =>
 ift (decide ((x1 : Int) < (Sl.len p_s : Int)))
 (ixa p_s x1 fun p5 =>
 ldT H3 Qa.c (p5.1, p5.2 + (x1 : Int).toNat * 4) fun x10 =>
 callU Tryz.prog C p_f [.agg (Qa.c x10).toArray] H3 (fun v H13 => ∃ (r12 : Bool), v = .bool r12 ∧
 ift r12
 (K x1 H13)
 (J2 (w .i64 (x1 + 1)) H13)))
 (K (-1) H3))
theorem QaG (C p_s p_f K H) (h : QJ C p_s p_f K H) : Qs C p_s p_f K H := by
 refine Ye Tryz.func126 rfl Tryz.ntmps126 [(0, slv p_s), (1, p_f)] (Zo (Za (GL.nil (GC.seq (Zo (Zm (Zq (Zm (GL.nil (GC.block (Yp h (fun x1 => [(8, .int .i64 x1), (0, slv p_s), (1, p_f), (7, .int .i64 (Sl.len p_s : Int))]) ?_)))))))))))
 intro x1 H3 J2 h
 refine Zo (Zi (.bool (decide ((x1 : Int) < (Sl.len p_s : Int)))) (GL.nil (GC.seq (Yd h (fun u4 h => ?_) fun u4 h => ?_))))
 refine GC.skip (GC.seq (GC.block (Zo (Zm (Za (GL.nil (Zo (Zm (Zm (Zm (Yx h fun p5 h => ?_)))))))))))
 obtain ⟨x10, v11, h⟩ := h
 refine Zv (OV.loadT rfl rfl rfl v11) (GL.callU (xv := p_f) (vs := [.agg (Qa.c x10).toArray]) h trivial rfl rfl rfl ?_)
 rintro _ H13 ⟨r12, rfl, h⟩
 refine GL.nil (Yd h (fun u14 h => ?_) fun u14 h => ?_)
 refine Zo (Zm (Za (GL.nil ?_)))
 exact Y1 I3 ⟨x1, rfl, h⟩
 refine GC.skip_to (fun _ _ h => h) (GC.region (Zi (.int .i64 (w .i64 (x1 + 1))) (Zm ?_)))
 exact Yj I3 (w .i64 (x1 + 1)) h
 refine GC.exit_to (fun _ _ h => h) (Zo (Za (GL.nil ?_)))
 exact Y1 I3 ⟨(-1), rfl, h⟩
def QbY (C : Ctx) (p_x : Int) (p_y : Int) (K : Int → Heap → Prop) (H : Heap) : Prop :=
 QaN C p_x (fun r1 H2 =>
 QaN C p_y (fun r3 H4 =>
 ift r1
 (ift r3
 (K 0 H4)
 (K (-1) H4))
 (ift r3
 (K 1 H4)
 (ift (decide ((p_x : Int) < p_y))
 (K (-1) H4)
 (ift (decide ((p_x : Int) > p_y))
 (K 1 H4)
 (K 0 H4))))) H2) H
theorem QeE (C p_x p_y K H) (h : QbY C p_x p_y K H) : Qa7 C p_x p_y K H := by
 refine Ye Tryz.func127 rfl Tryz.ntmps127 [(0, .int .u8 p_x), (1, .int .u8 p_y)] (Zo (Za (GL.nil (Zo (Zm (Zc h Qcw ?_))))))
 rintro _ H2 ⟨r1, rfl, h⟩
 refine Za (GL.nil (Zo (Zm (Zc h Qcw ?_))))
 rintro _ H4 ⟨r3, rfl, h⟩
 refine Za (GL.nil (GC.seq (Zo (Zm (GL.nil (Yd h (fun hc5 h => ?_) fun hc5 h => ?_))))))
 refine GC.seq (Zo (Zm (GL.nil (Yd h (fun hc6 h => ?_) fun hc6 h => ?_))))
 refine Zo (Za (GL.nil ?_))
 exact Y1 I3 ⟨0, rfl, h⟩
 refine GC.skip (Zo (Za (GL.nil ?_)))
 exact Y1 I3 ⟨(-1), rfl, h⟩
 refine GC.skip (GC.seq (Zo (Zm (GL.nil (Yd h (fun hc7 h => ?_) fun hc7 h => ?_)))))
 refine Zo (Za (GL.nil ?_))
 exact Y1 I3 ⟨1, rfl, h⟩
 refine GC.skip (GC.seq (Zo (Zm (Zm (Zi (.bool (decide ((p_x : Int) < p_y))) (GL.nil (Yd h (fun hc8 h => ?_) fun hc8 h => ?_)))))))
 refine Zo (Za (GL.nil ?_))
 exact Y1 I3 ⟨(-1), rfl, h⟩
 refine GC.skip (GC.seq (Zo (Zm (Zm (Zi (.bool (decide ((p_x : Int) > p_y))) (GL.nil (Yd h (fun hc9 h => ?_) fun hc9 h => ?_)))))))
 refine Zo (Za (GL.nil ?_))
 exact Y1 I3 ⟨1, rfl, h⟩
 refine GC.skip (Zo (Za (GL.nil ?_)))
 exact Y1 I3 ⟨0, rfl, h⟩
def QdV (C : Ctx) (p_a : Str) (p_b : Str) (K : Int → Heap → Prop) (H : Heap) : Prop :=
 Qam C p_a [45] (fun r1 H2 =>
 Qam C p_b [45] (fun r3 H4 =>
 ift (r1 && r3)
 (dr H4 fun Hs7 =>
 slS p_b 1 (List.length p_b : Int) fun t9 =>
 slS p_a 1 (List.length p_a : Int) fun t15 =>
 Q5 C t9 t15 (fun r22 H23 =>
 Heap.le Hs7 H23 ∧
 K r22 H23) H4)
 (ift r1
 (K (-1) H4)
 (ift r3
 (K 1 H4)
 (QbA C (List.length p_a : Int) (List.length p_b : Int) (fun r26 H27 =>
 QL C p_a p_b (fun r28 H29 =>
 nw ([.int .i64 r26, .int .i64 r28]) (fun b30 H31 =>
 Qct C (Sl.of (some (b30, 0)) 2 2) (fun r32 H33 =>
 K r32 H33) H31) H29) H27) H4)))) H2) H
theorem Qfx (C p_a p_b K H) (h : QdV C p_a p_b K H) : Q5 C p_a p_b K H := by
 refine Ye Tryz.func128 rfl Tryz.ntmps128 [(0, sv p_a), (1, sv p_b)] (Zo (Za (GL.nil (Zo (Zm (Zc h QbW ?_))))))
 rintro _ H2 ⟨r1, rfl, h⟩
 refine Zm (Zc h QbW ?_)
 rintro _ H4 ⟨r3, rfl, h⟩
 refine Za (Za (GL.nil (GC.seq (GC.block (Zo (Zm (Zm (GL.cut0 2 [(15, .bool (r1 && r3)), (0, sv p_a), (1, sv p_b), (5, .bool r1), (6, .bool r3)] ?_ ?_))))))))
 rcases Bool.eq_false_or_eq_true r1 with u5 | u5
 refine Zu u5 Ym (Zt u5 ?_)
 exact GL.jump0 (fun _ _ h => h) () rfl ⟨(by rw [u5]; rfl), rfl, rfl, rfl, rfl, trivial⟩
 refine Zk u5 (Zn u5 ?_)
 exact GL.jump0 (fun _ _ h => h) () rfl ⟨(by rw [u5]; rfl), rfl, rfl, rfl, rfl, trivial⟩
 refine Za (GL.nil (Yd h (fun u6 h => ?_) fun u6 h => ?_))
 refine GC.seq ?_
 obtain ⟨Hs7, hle8, h⟩ := h
 refine GC.any (Hs := Hs7) (by kernel_rfl) hle8 (Zp 0 rfl Ym ?_)
 obtain ⟨h10, h11, h12, t9, h13, h⟩ := h
 refine Zp 1 rfl (OV.sliceStr (s := p_b) h10 h11 h12 h13 rfl rfl rfl rfl rfl rfl) (Zp 2 rfl Ym ?_)
 obtain ⟨h16, h17, h18, t15, h19, h⟩ := h
 refine Zp 3 rfl (OV.sliceStr (s := p_a) h16 h17 h18 h19 rfl rfl rfl rfl rfl rfl) (GA.eff 4 rfl (by kernel_rfl) (Zc h QfO ?_))
 rintro _ H23 ⟨r22, rfl, h⟩
 obtain ⟨hle21, h⟩ := h
 refine GA.back hle21 (Zp 5 rfl Ya (GA.done (by kernel_rfl) (GL.nil ?_)))
 exact Y1 I3 ⟨r22, rfl, h⟩
 refine Zo (Zm (Za (GL.nil (Yd h (fun u24 h => ?_) fun u24 h => ?_))))
 refine Zo (Za (GL.nil ?_))
 exact Y1 I3 ⟨(-1), rfl, h⟩
 refine Zo (Zm (Za (GL.nil (Yd h (fun u25 h => ?_) fun u25 h => ?_))))
 refine Zo (Za (GL.nil ?_))
 exact Y1 I3 ⟨1, rfl, h⟩
 refine GC.skip_to (fun _ _ h => h) (Zo (Zm (Zr (Zm (Zr (Zc h QfC ?_))))))
 rintro _ H27 ⟨r26, rfl, h⟩
 refine Zm (Zm (Zc h QaI ?_))
 rintro _ H29 ⟨r28, rfl, h⟩
 refine GL.buildSlice (cs := [.int .i64 r26, .int .i64 r28]) h trivial rfl (vs := [(0, .int .i64 r26), (1, .int .i64 r28)]) rfl ⟨3, fun _ => by kernel_rfl⟩ ?_
 intro b30 H31 h
 refine Zc h QfD ?_
 rintro _ H33 ⟨r32, rfl, h⟩
 refine Za (GL.nil ?_)
 exact Y1 I3 ⟨r32, rfl, h⟩
def QbP (C : Ctx) (p_x : Str) (p_y : Str) (K : Int → Heap → Prop) (H : Heap) : Prop :=
 Qax C p_x (fun r1 H2 =>
 Qax C p_y (fun r3 H4 =>
 ift r1
 (ift r3
 (K 0 H4)
 (K (-1) H4))
 (ift r3
 (K 1 H4)
 (ift (slt p_x p_y)
 (K (-1) H4)
 (ift (!(slt p_x p_y || (p_x == p_y)))
 (K 1 H4)
 (K 0 H4))))) H2) H
theorem Qea (C p_x p_y K H) (h : QbP C p_x p_y K H) : QL C p_x p_y K H := by
 refine Ye Tryz.func129 rfl Tryz.ntmps129 [(0, sv p_x), (1, sv p_y)] (Zo (Za (GL.nil (Zo (Zm (Zc h Qce ?_))))))
 rintro _ H2 ⟨r1, rfl, h⟩
 refine Za (GL.nil (Zo (Zm (Zc h Qce ?_))))
 rintro _ H4 ⟨r3, rfl, h⟩
 refine Za (GL.nil (GC.seq (Zo (Zm (GL.nil (Yd h (fun u5 h => ?_) fun u5 h => ?_))))))
 refine GC.seq (Zo (Zm (GL.nil (Yd h (fun u6 h => ?_) fun u6 h => ?_))))
 refine Zo (Za (GL.nil ?_))
 exact Y1 I3 ⟨0, rfl, h⟩
 refine GC.skip (Zo (Za (GL.nil ?_)))
 exact Y1 I3 ⟨(-1), rfl, h⟩
 refine GC.skip (GC.seq (Zo (Zm (GL.nil (Yd h (fun u7 h => ?_) fun u7 h => ?_)))))
 refine Zo (Za (GL.nil ?_))
 exact Y1 I3 ⟨1, rfl, h⟩
 refine GC.skip (GC.seq (Zo (Zm (Zm (Zv (OV.sbin (a := p_x) (b := p_y) (v := .bool (slt p_x p_y)) rfl rfl rfl) (GL.nil (Yd h (fun u8 h => ?_) fun u8 h => ?_)))))))
 refine Zo (Za (GL.nil ?_))
 exact Y1 I3 ⟨(-1), rfl, h⟩
 refine GC.skip (GC.seq (Zo (Zm (Zm (Zv (OV.sbin (a := p_x) (b := p_y) (v := .bool (!(slt p_x p_y || (p_x == p_y)))) rfl rfl rfl) (GL.nil (Yd h (fun u9 h => ?_) fun u9 h => ?_)))))))
 refine Zo (Za (GL.nil ?_))
 exact Y1 I3 ⟨1, rfl, h⟩
 refine GC.skip (Zo (Za (GL.nil ?_)))
 exact Y1 I3 ⟨0, rfl, h⟩
def QfU (C : Ctx) (p_vals : Sl) (K : Int → Heap → Prop) (H : Heap) : Prop :=
 lp (α := Int) 0 H (fun x1 J2 H3 =>
 ift (decide ((x1 : Int) < (Sl.len p_vals : Int)))
 (ixa p_vals x1 fun p5 =>
 ldI H3 .i64 (p5.1, p5.2 + (x1 : Int).toNat * 1) fun x10 =>
 ift ((x10 : Int) != 0)
 (K x10 H3)
 (J2 (w .i64 (x1 + 1)) H3))
 (K 0 H3))
theorem Qis (C p_vals K H) (h : QfU C p_vals K H) : Qct C p_vals K H := by
 refine Ye Tryz.func130 rfl Tryz.ntmps130 [(0, slv p_vals)] (Zo (Za (GL.nil (Zo (Za (GL.nil (GC.seq (Zo (Zm (Zq (Zm (GL.nil (GC.block (Yp h (fun x1 => [(8, .int .i64 x1), (3, .int .i64 0), (6, slv p_vals), (7, .int .i64 (Sl.len p_vals : Int))]) ?_))))))))))))))
 intro x1 H3 J2 h
 refine Zo (Zi (.bool (decide ((x1 : Int) < (Sl.len p_vals : Int)))) (GL.nil (GC.seq (Yd h (fun u4 h => ?_) fun u4 h => ?_))))
 refine GC.skip (GC.seq (GC.block (Zo (Yx h fun p5 h => ?_))))
 refine Yl h fun x10 h => ?_
 refine Za (GL.nil (Zo (Zm (Zm (Zi (.bool ((x10 : Int) != 0)) (GL.nil (Yd h (fun u12 h => ?_) fun u12 h => ?_)))))))
 refine Zo (Zm (Za (GL.nil ?_)))
 exact Y1 I3 ⟨x10, rfl, h⟩
 refine GC.skip_to (fun _ _ h => h) (GC.region (Zi (.int .i64 (w .i64 (x1 + 1))) (Zm ?_)))
 exact Yj I3 (w .i64 (x1 + 1)) h
 refine GC.exit_to (fun _ _ h => h) (Zo (Zm (Za (GL.nil ?_))))
 exact Y1 I3 ⟨0, rfl, h⟩
def QbX (C : Ctx) (p_x : Int) (p_y : Int) (K : Int → Heap → Prop) (H : Heap) : Prop :=
 QaM C p_x (fun r1 H2 =>
 QaM C p_y (fun r3 H4 =>
 ift r1
 (ift r3
 (K 0 H4)
 (K (-1) H4))
 (ift r3
 (K 1 H4)
 (ift (decide ((p_x : Int) < p_y))
 (K (-1) H4)
 (ift (decide ((p_x : Int) > p_y))
 (K 1 H4)
 (K 0 H4))))) H2) H
theorem QeD (C p_x p_y K H) (h : QbX C p_x p_y K H) : Qa6 C p_x p_y K H := by
 refine Ye Tryz.func131 rfl Tryz.ntmps131 [(0, .int .i64 p_x), (1, .int .i64 p_y)] (Zo (Za (GL.nil (Zo (Zm (Zc h Qcv ?_))))))
 rintro _ H2 ⟨r1, rfl, h⟩
 refine Za (GL.nil (Zo (Zm (Zc h Qcv ?_))))
 rintro _ H4 ⟨r3, rfl, h⟩
 refine Za (GL.nil (GC.seq (Zo (Zm (GL.nil (Yd h (fun u5 h => ?_) fun u5 h => ?_))))))
 refine GC.seq (Zo (Zm (GL.nil (Yd h (fun u6 h => ?_) fun u6 h => ?_))))
 refine Zo (Za (GL.nil ?_))
 exact Y1 I3 ⟨0, rfl, h⟩
 refine GC.skip (Zo (Za (GL.nil ?_)))
 exact Y1 I3 ⟨(-1), rfl, h⟩
 refine GC.skip (GC.seq (Zo (Zm (GL.nil (Yd h (fun u7 h => ?_) fun u7 h => ?_)))))
 refine Zo (Za (GL.nil ?_))
 exact Y1 I3 ⟨1, rfl, h⟩
 refine GC.skip (GC.seq (Zo (Zm (Zm (Zi (.bool (decide ((p_x : Int) < p_y))) (GL.nil (Yd h (fun u8 h => ?_) fun u8 h => ?_)))))))
 refine Zo (Za (GL.nil ?_))
 exact Y1 I3 ⟨(-1), rfl, h⟩
 refine GC.skip (GC.seq (Zo (Zm (Zm (Zi (.bool (decide ((p_x : Int) > p_y))) (GL.nil (Yd h (fun u9 h => ?_) fun u9 h => ?_)))))))
 refine Zo (Za (GL.nil ?_))
 exact Y1 I3 ⟨1, rfl, h⟩
 refine GC.skip (Zo (Za (GL.nil ?_)))
 exact Y1 I3 ⟨0, rfl, h⟩
def QdU (C : Ctx) (p_a : Str) (p_b : Str) (K : Int → Heap → Prop) (H : Heap) : Prop :=
 ixs p_a 0 fun c1 =>
 ixs p_b 0 fun c4 =>
 ift (!((((c1.toNat : Int) : Int) == 45) == (((c4.toNat : Int) : Int) == 45)))
 (ift (((c1.toNat : Int) : Int) == 45)
 (K (-1) H)
 (K 1 H))
 (ift (((c1.toNat : Int) : Int) == 45)
 (dr H fun Hs10 =>
 slS p_b 1 (List.length p_b : Int) fun t12 =>
 slS p_a 1 (List.length p_a : Int) fun t18 =>
 QbK C t12 t18 (fun r25 H26 =>
 Heap.le Hs10 H26 ∧
 K r25 H26) H)
 (ift (((List.length p_a : Int) : Int) != (List.length p_b : Int))
 (Qaj C (List.length p_a : Int) (List.length p_b : Int) (fun r28 H29 =>
 K r28 H29) H)
 (Qbq C p_a p_b (fun r30 H31 =>
 K r30 H31) H)))
theorem Qft (C p_a p_b K H) (h : QdU C p_a p_b K H) : QbK C p_a p_b K H := by
 refine Ye Tryz.func132 rfl Tryz.ntmps132 [(0, sv p_a), (1, sv p_b)] (Zo (Za (GL.nil (GC.seq (GC.draw (by kernel_rfl) (by kernel_rfl) (GQ.val trivial rfl (OV.move (v := sv p_a) rfl) ?_))))))
 obtain ⟨c1, ha2, hb3, h⟩ := h
 refine GQ.val trivial rfl (OV.indexStr (s := p_a) rfl rfl rfl ha2 hb3) (GQ.val trivial rfl (OV.ibin (v := .bool (((c1.toNat : Int) : Int) == 45)) rfl rfl rfl) (GQ.val trivial rfl (OV.move (v := sv p_b) rfl) ?_))
 obtain ⟨c4, ha5, hb6, h⟩ := h
 refine GQ.val trivial rfl (OV.indexStr (s := p_b) rfl rfl rfl ha5 hb6) (GQ.val trivial rfl (OV.ibin (v := .bool (((c4.toNat : Int) : Int) == 45)) rfl rfl rfl) (GQ.val trivial rfl (OV.assign (v := .bool (((c1.toNat : Int) : Int) == 45)) rfl) (GQ.val trivial rfl (OV.assign (v := .bool (((c4.toNat : Int) : Int) == 45)) rfl) (GQ.nil (GL.nil (GC.seq (Zo (Zm (Zm (Zv (OV.neqBool rfl rfl rfl) (GL.nil (Yd h (fun u7 h => ?_) fun u7 h => ?_))))))))))))
 refine GC.seq (Zo (Zm (GL.nil (Yd h (fun u8 h => ?_) fun u8 h => ?_))))
 refine Zo (Za (GL.nil ?_))
 exact Y1 I3 ⟨(-1), rfl, h⟩
 refine GC.skip (Zo (Za (GL.nil ?_)))
 exact Y1 I3 ⟨1, rfl, h⟩
 refine GC.skip (GC.seq (Zo (Zm (GL.nil (Yd h (fun u9 h => ?_) fun u9 h => ?_)))))
 refine GC.seq ?_
 obtain ⟨Hs10, hle11, h⟩ := h
 refine GC.any (Hs := Hs10) (by kernel_rfl) hle11 (Zp 0 rfl Ym ?_)
 obtain ⟨h13, h14, h15, t12, h16, h⟩ := h
 refine Zp 1 rfl (OV.sliceStr (s := p_b) h13 h14 h15 h16 rfl rfl rfl rfl rfl rfl) (Zp 2 rfl Ym ?_)
 obtain ⟨h19, h20, h21, t18, h22, h⟩ := h
 refine Zp 3 rfl (OV.sliceStr (s := p_a) h19 h20 h21 h22 rfl rfl rfl rfl rfl rfl) (GA.eff 4 rfl (by kernel_rfl) (Zc h QfI ?_))
 rintro _ H26 ⟨r25, rfl, h⟩
 obtain ⟨hle24, h⟩ := h
 refine GA.back hle24 (Zp 5 rfl Ya (GA.done (by kernel_rfl) (GL.nil ?_)))
 exact Y1 I3 ⟨r25, rfl, h⟩
 refine GC.skip (GC.seq (Zo (Zm (Zr (Zm (Zr (Zi (.bool (((List.length p_a : Int) : Int) != (List.length p_b : Int))) (GL.nil (Yd h (fun u27 h => ?_) fun u27 h => ?_)))))))))
 refine Zo (Zm (Zr (Zm (Zr (Zc h QaU ?_)))))
 rintro _ H29 ⟨r28, rfl, h⟩
 refine Za (GL.nil ?_)
 exact Y1 I3 ⟨r28, rfl, h⟩
 refine GC.skip (Zo (Zm (Zm (Zc h Qc5 ?_))))
 rintro _ H31 ⟨r30, rfl, h⟩
 refine Za (GL.nil ?_)
 exact Y1 I3 ⟨r30, rfl, h⟩
def Qe0 (C : Ctx) (p_a : Str) (p_b : Str) (K : Int → Heap → Prop) (H : Heap) : Prop :=
 lp (α := Int) 0 H (fun x1 J2 H3 =>
 ift ((decide ((x1 : Int) < (List.length p_a : Int))) && (decide ((x1 : Int) < (List.length p_b : Int))))
 (ixs p_a x1 fun c6 =>
 ixs p_b x1 fun c9 =>
 ift (((c6.toNat : Int) : Int) != (c9.toNat : Int))
 (dr H3 fun Hs13 =>
 ixs p_a x1 fun c15 =>
 ixs p_b x1 fun c18 =>
 Qaj C (w .i64 (c15.toNat : Int)) (w .i64 (c18.toNat : Int)) (fun r22 H23 =>
 Heap.le Hs13 H23 ∧
 K r22 H23) H3)
 (J2 (w .i64 (x1 + 1)) H3))
 (Qaj C (List.length p_a : Int) (List.length p_b : Int) (fun r24 H25 =>
 K r24 H25) H3))
theorem QhU (C p_a p_b K H) (h : Qe0 C p_a p_b K H) : Qbq C p_a p_b K H := by
 refine Ye Tryz.func133 rfl Tryz.ntmps133 [(0, sv p_a), (1, sv p_b)] (Zo (Za (GL.nil (GC.seq (Zo (Za (GL.nil (GC.block (Yp h (fun x1 => [(5, .int .i64 x1), (0, sv p_a), (1, sv p_b)]) ?_)))))))))
 intro x1 H3 J2 h
 refine GC.seq (Zo (Zm (Zm (Zr (Zi (.bool (decide ((x1 : Int) < (List.length p_a : Int)))) (Zm (GL.cut0 5 [(15, .bool ((decide ((x1 : Int) < (List.length p_a : Int))) && (decide ((x1 : Int) < (List.length p_b : Int))))), (0, sv p_a), (1, sv p_b), (5, .int .i64 x1)] ?_ ?_)))))))
 rcases Zb (decide ((x1 : Int) < (List.length p_a : Int))) with u4 | u4
 refine Zu u4 Ym (Zu u4 Ym (Zu u4 (OV.lenStr rfl rfl) (Zu u4 (OV.ibin (v := .bool (decide ((x1 : Int) < (List.length p_b : Int)))) rfl rfl rfl) (Zt u4 ?_))))
 exact GL.jump0 (fun _ _ h => h) () rfl ⟨(by rw [u4]; rfl), rfl, rfl, rfl, trivial⟩
 refine Zk u4 (Zk u4 (Zk u4 (Zk u4 (Zn u4 ?_))))
 exact GL.jump0 (fun _ _ h => h) () rfl ⟨(by rw [u4]; rfl), rfl, rfl, rfl, trivial⟩
 refine GL.nil (Yd h (fun u5 h => ?_) fun u5 h => ?_)
 refine GC.skip (GC.seq (GC.block (GC.seq (GC.draw (by kernel_rfl) (by kernel_rfl) (GQ.val trivial rfl (OV.move (v := sv p_a) rfl) (GQ.val trivial rfl (OV.move (v := .int .i64 x1) rfl) ?_))))))
 obtain ⟨c6, ha7, hb8, h⟩ := h
 refine GQ.val trivial rfl (OV.indexStr (s := p_a) rfl rfl rfl ha7 hb8) (GQ.val trivial rfl (OV.move (v := sv p_b) rfl) (GQ.val trivial rfl (OV.move (v := .int .i64 x1) rfl) ?_))
 obtain ⟨c9, ha10, hb11, h⟩ := h
 refine GQ.val trivial rfl (OV.indexStr (s := p_b) rfl rfl rfl ha10 hb11) (GQ.val trivial rfl (OV.ibin (v := .bool (((c6.toNat : Int) : Int) != (c9.toNat : Int))) rfl rfl rfl) (GQ.nil (GL.nil (Yd h (fun u12 h => ?_) fun u12 h => ?_))))
 refine GC.seq ?_
 obtain ⟨Hs13, hle14, h⟩ := h
 refine GC.any (Hs := Hs13) (by kernel_rfl) hle14 (Zp 0 rfl Ym (Zp 1 rfl Ym ?_))
 obtain ⟨c15, ha16, hb17, h⟩ := h
 refine Zp 2 rfl (OV.indexStr rfl rfl rfl ha16 hb17) (Zp 3 rfl (OV.convInt rfl rfl rfl) (Zp 4 rfl Ym (Zp 5 rfl Ym ?_)))
 obtain ⟨c18, ha19, hb20, h⟩ := h
 refine Zp 6 rfl (OV.indexStr rfl rfl rfl ha19 hb20) (Zp 7 rfl (OV.convInt rfl rfl rfl) (GA.eff 8 rfl (by kernel_rfl) (Zc h QaU ?_)))
 rintro _ H23 ⟨r22, rfl, h⟩
 obtain ⟨hle21, h⟩ := h
 refine GA.back hle21 (Zp 9 rfl Ya (GA.done (by kernel_rfl) (GL.nil ?_)))
 exact Y1 I3 ⟨r22, rfl, h⟩
 refine GC.skip_to (fun _ _ h => h) (GC.region (Zm (Zi (.int .i64 (w .i64 (x1 + 1))) (Za ?_))))
 exact Yj I3 (w .i64 (x1 + 1)) h
 refine GC.exit_to (fun _ _ h => h) (Zo (Zm (Zr (Zm (Zr (Zc h QaU ?_))))))
 rintro _ H25 ⟨r24, rfl, h⟩
 refine Za (GL.nil ?_)
 exact Y1 I3 ⟨r24, rfl, h⟩
def QX (C : Ctx) (p_s : Str) (p_prefix : Str) (K : Str → Heap → Prop) (H : Heap) : Prop :=
 Qg C p_s p_prefix (fun r1 H2 =>
 ift r1
 (slS p_s (List.length p_prefix : Int) (List.length p_s : Int) fun t4 =>
 K t4 H2)
 (K p_s H2)) H
theorem Qbh (C p_s p_prefix K H) (h : QX C p_s p_prefix K H) : Q0 C p_s p_prefix K H := by
 refine Ye Tryz.func134 rfl Tryz.ntmps134 [(0, sv p_s), (1, sv p_prefix)] (Zo (Za (GL.nil (GC.seq (Zo (Zm (Zm (Zc h QA ?_))))))))
 rintro _ H2 ⟨r1, rfl, h⟩
 refine GL.nil (Yd h (fun u3 h => ?_) fun u3 h => ?_)
 refine Zo (Zm (Zm (Zr ?_)))
 obtain ⟨h5, h6, h7, t4, h8, h⟩ := h
 refine Zv (OV.sliceStr (s := p_s) h5 h6 h7 h8 rfl rfl rfl rfl rfl rfl) (Za (GL.nil ?_))
 exact Y1 I3 ⟨t4, rfl, h⟩
 refine GC.skip (Zo (Zm (Za (GL.nil ?_))))
 exact Y1 I3 ⟨p_s, rfl, h⟩
def Qbx (C : Ctx) (p_chars : Str) (K : List Value → Bool → Heap → Prop) (H : Heap) : Prop :=
 nw ((List.replicate 256 (.bool false : Value))) (fun b1 H2 =>
 lp (α := Int) 0 H2 (fun x3 J4 H5 =>
 ift (decide ((x3 : Int) < (List.length p_chars : Int)))
 (ixs p_chars x3 fun c7 =>
 ift (decide (((c7.toNat : Int) : Int) ≥ 128))
 (ldC H5 256 (b1, 0) fun x11 =>
 stC 256 (b1, 0) x11 (fun H14 =>
 ldC H14 256 (b1, 0) fun x17 =>
 K x17 false H14) H5)
 (ixr (b1, 0) 256 (c7.toNat : Int) <|
 st ((b1, 0).1, (b1, 0).2 + ((c7.toNat : Int) : Int).toNat * 1) (.bool true) (fun H22 =>
 J4 (w .i64 (x3 + 1)) H22) H5))
 (ldC H5 256 (b1, 0) fun x23 =>
 stC 256 (b1, 0) x23 (fun H26 =>
 ldC H26 256 (b1, 0) fun x29 =>
 K x29 true H26) H5))) H
theorem Qdw (C p_chars K H) (h : Qbx C p_chars K H) : Qp C p_chars K H := by
 refine Ye Tryz.func137 rfl Tryz.ntmps137 [(0, sv p_chars)] (Zo (GL.alloc (cs := (List.replicate 256 (.bool false : Value))) h trivial rfl rfl rfl ?_))
 intro b1 H2 h
 refine Za (GL.nil (GC.seq (Zo (Za (GL.nil (GC.block (Yp h (fun x3 => [(4, .int .i64 x3), (0, sv p_chars), (2, pv (some (b1, 0)))]) ?_)))))))
 intro x3 H5 J4 h
 refine GC.seq (Zo (Zm (Zm (Zr (Zi (.bool (decide ((x3 : Int) < (List.length p_chars : Int)))) (GL.nil (Yd h (fun u6 h => ?_) fun u6 h => ?_)))))))
 refine GC.skip (GC.seq (GC.block (Zo (Zm (Zm (Ys h fun c7 h => ?_))))))
 refine Za (GL.nil (GC.seq (Zo (Zm (Zi (.bool (decide (((c7.toNat : Int) : Int) ≥ 128))) (GL.nil (Yd h (fun u10 h => ?_) fun u10 h => ?_)))))))
 refine Zo ?_
 obtain ⟨x11, hl13, v12, h⟩ := h
 refine Zv (OV.loadT (p := (b1, 0)) (cs := x11) rfl rfl (by rw [hl13]; rfl) v12) ?_
 obtain ⟨hl15, h116, h⟩ := h
 refine GL.storeT (p := (b1, 0)) (vs := x11) h trivial rfl rfl h116 (by rw [hl15]; rfl) ?_
 intro H14 h
 refine Za (GL.nil ?_)
 obtain ⟨x17, hl19, v18, h⟩ := h
 exact GC.ret (fun _ _ hf hs => QjG rfl (RV.cellT (p := (b1, 0)) (cs := x17) rfl rfl (by rw [hl19]; rfl) v18) (RV.tmp rfl) hf hs ⟨x17, false, rfl, h⟩)
 refine GC.skip (GC.region (Zm ?_))
 obtain ⟨ha20, hb21, h⟩ := h
 refine Zv (OV.indexAddrA (p := (b1, 0)) rfl rfl rfl rfl ha20 hb21) (GL.store (p := ((b1, 0).1, (b1, 0).2 + ((c7.toNat : Int) : Int).toNat * 1)) (v := .bool true) h trivial rfl rfl rfl rfl ?_)
 intro H22 h
 refine GL.nil_to (fun _ _ h => h) (GC.region (Zm (Zi (.int .i64 (w .i64 (x3 + 1))) (Za ?_))))
 exact Yj I3 (w .i64 (x3 + 1)) h
 refine GC.exit_to (fun _ _ h => h) (Zo ?_)
 obtain ⟨x23, hl25, v24, h⟩ := h
 refine Zv (OV.loadT (p := (b1, 0)) (cs := x23) rfl rfl (by rw [hl25]; rfl) v24) ?_
 obtain ⟨hl27, h128, h⟩ := h
 refine GL.storeT (p := (b1, 0)) (vs := x23) h trivial rfl rfl h128 (by rw [hl27]; rfl) ?_
 intro H26 h
 refine Za (GL.nil ?_)
 obtain ⟨x29, hl31, v30, h⟩ := h
 exact GC.ret (fun _ _ hf hs => QjG rfl (RV.cellT (p := (b1, 0)) (cs := x29) rfl rfl (by rw [hl31]; rfl) v30) (RV.tmp rfl) hf hs ⟨x29, true, rfl, h⟩)
def Qbf (C : Ctx) (p_s : Str) (p_as : Option (Nat × Nat)) (K : Str → Heap → Prop) (H : Heap) : Prop :=
 jn (α := Str) (fun x2 H3 =>
 K x2 H3)
 (fun J1 => lp (α := Str) p_s H (fun x5 J6 H7 =>
 ift (decide (((List.length x5 : Int) : Int) > 0))
 (ixs x5 0 fun c9 =>
 Qz C p_as (c9.toNat : Int) (fun r12 H13 =>
 ift (!r12)
 (J1 x5 H13)
 (slS x5 1 (List.length x5 : Int) fun t15 =>
 J6 t15 H13)) H7)
 (J1 x5 H7)))
theorem Qdc (C p_s p_as K H) (h : Qbf C p_s p_as K H) : Qan C p_s p_as K H := by
 refine Ye Tryz.func138 rfl Tryz.ntmps138 [(0, sv p_s), (1, pv p_as)] (Zo (Za (GL.nil ?_)))
 obtain ⟨J1, h, hR4⟩ := h
 refine GC.join (α := Str) J1 (fun x2 => [(0, sv x2)]) ?_ ?_
 refine GC.block (Yp h (fun x5 => [(0, sv x5), (1, pv p_as)]) ?_)
 intro x5 H7 J6 h
 refine GC.seq (Zo (Zm (Zr (Zi (.bool (decide (((List.length x5 : Int) : Int) > 0))) (GL.nil (Yd h (fun u8 h => ?_) fun u8 h => ?_))))))
 refine GC.skip (GC.block (GC.seq (Zo (Zm (Zm (Ys h fun c9 h => ?_))))))
 refine Zc h QaB ?_
 rintro _ H13 ⟨r12, rfl, h⟩
 refine Zv (OV.not rfl) (GL.nil (Yd h (fun u14 h => ?_) fun u14 h => ?_))
 exact GC.exit_jump (fun _ _ h => h) x5 h ⟨rfl, trivial⟩
 refine GC.skip (GC.region (Zm ?_))
 obtain ⟨h16, h17, h18, t15, h19, h⟩ := h
 refine Zv (OV.sliceStr (s := x5) h16 h17 h18 h19 rfl rfl rfl rfl rfl rfl) (Za ?_)
 exact Yj I3 t15 h
 exact GC.exit_jump (fun _ _ h => h) x5 h ⟨rfl, trivial⟩
 intro x2 H3 h
 replace h := hR4 x2 H3 h
 refine Zo (Zm (Za (GL.nil ?_)))
 exact Y1 I3 ⟨x2, rfl, h⟩
def Qa2 (C : Ctx) (p_s : Str) (p_as : Option (Nat × Nat)) (K : Str → Heap → Prop) (H : Heap) : Prop :=
 jn (α := Str) (fun x2 H3 =>
 K x2 H3)
 (fun J1 => lp (α := Str) p_s H (fun x5 J6 H7 =>
 ift (decide (((List.length x5 : Int) : Int) > 0))
 (ixs x5 (w .i64 ((List.length x5 : Int) - 1)) fun c9 =>
 Qz C p_as (c9.toNat : Int) (fun r12 H13 =>
 ift (!r12)
 (J1 x5 H13)
 (slS x5 0 (w .i64 ((List.length x5 : Int) - 1)) fun t15 =>
 J6 t15 H13)) H7)
 (J1 x5 H7)))
theorem QcV (C p_s p_as K H) (h : Qa2 C p_s p_as K H) : Qah C p_s p_as K H := by
 refine Ye Tryz.func139 rfl Tryz.ntmps139 [(0, sv p_s), (1, pv p_as)] (Zo (Za (GL.nil ?_)))
 obtain ⟨J1, h, hR4⟩ := h
 refine GC.join (α := Str) J1 (fun x2 => [(0, sv x2)]) ?_ ?_
 refine GC.block (Yp h (fun x5 => [(0, sv x5), (1, pv p_as)]) ?_)
 intro x5 H7 J6 h
 refine GC.seq (Zo (Zm (Zr (Zi (.bool (decide (((List.length x5 : Int) : Int) > 0))) (GL.nil (Yd h (fun u8 h => ?_) fun u8 h => ?_))))))
 refine GC.skip (GC.block (GC.seq (Zo (Zm (Zm (Zm (Zr (Zi (.int .i64 (w .i64 ((List.length x5 : Int) - 1))) (Ys h fun c9 h => ?_)))))))))
 refine Zc h QaB ?_
 rintro _ H13 ⟨r12, rfl, h⟩
 refine Zv (OV.not rfl) (GL.nil (Yd h (fun u14 h => ?_) fun u14 h => ?_))
 exact GC.exit_jump (fun _ _ h => h) x5 h ⟨rfl, trivial⟩
 refine GC.skip (GC.region (Zm (Zm (Zr (Zi (.int .i64 (w .i64 ((List.length x5 : Int) - 1))) ?_)))))
 obtain ⟨h16, h17, h18, t15, h19, h⟩ := h
 refine Zv (OV.sliceStr (s := x5) h16 h17 h18 h19 rfl rfl rfl rfl rfl rfl) (Za ?_)
 exact Yj I3 t15 h
 exact GC.exit_jump (fun _ _ h => h) x5 h ⟨rfl, trivial⟩
 intro x2 H3 h
 replace h := hR4 x2 H3 h
 refine Zo (Zm (Za (GL.nil ?_)))
 exact Y1 I3 ⟨x2, rfl, h⟩
def Qas (C : Ctx) (p_s : Str) (p_substr : Str) (K : Int → Heap → Prop) (H : Heap) : Prop :=
 ift ((((List.length p_substr : Int) : Int) == 0) || (p_substr == p_s))
 (K 0 H)
 (ift (((List.length p_substr : Int) : Int) == 1)
 (ixs p_substr 0 fun c4 =>
 QD C p_s (c4.toNat : Int) (fun r7 H8 =>
 K r7 H8) H)
 (ift (decide (((List.length p_substr : Int) : Int) ≥ (List.length p_s : Int)))
 (K (-1) H)
 (ldI H .i64 (1, 0) fun x10 =>
 ift ((decide (((List.length p_substr : Int) : Int) ≤ x10)) && (decide (((List.length p_s : Int) : Int) ≤ 64)))
 (False)
 (ixs p_substr 0 fun c14 =>
 ixs p_substr 1 fun c17 =>
 lp (α := Int × Int) (0, 0) H (fun x20 J21 H22 =>
 ift (decide ((x20.1 : Int) < (w .i64 ((w .i64 ((List.length p_s : Int) - (List.length p_substr : Int))) + 1))))
 (jn (α := Int) (fun x25 H26 =>
 ixs p_s (w .i64 (x25 + 1)) fun c41 =>
 jn (α := Bool) (fun b44 H54 =>
 ift b44
 (K x25 H54)
 (ldI H54 .i64 (1, 0) fun x56 =>
 jn (α := Bool) (fun b58 H64 =>
 ift b58
 (False)
 (ldI H64 .i64 (1, 0) fun x72 =>
 ift (((decide (((List.length p_substr : Int) : Int) > x72)) && (decide (((w .i64 (x20.2 + 1)) : Int) ≥ (w .i64 (4 + (sShr .i64 (w .i64 (x25 + 1)) 4)))))) && (decide (((w .i64 (x25 + 1)) : Int) < (w .i64 ((w .i64 ((List.length p_s : Int) - (List.length p_substr : Int))) + 1)))))
 (slS p_s (w .i64 (x25 + 1)) (List.length p_s : Int) fun t77 =>
 QaE C t77 p_substr (fun r83 H84 =>
 ift (decide ((r83 : Int) < 0))
 (K (-1) H84)
 (K (w .i64 ((w .i64 (x25 + 1)) + r83)) H84)) H64)
 (J21 ((w .i64 (x25 + 1)), (w .i64 (x20.2 + 1))) H64)))
 (fun J59 => ift (decide (((List.length p_substr : Int) : Int) ≤ x56))
 (Qcq C (w .i64 (x25 + 1)) (fun r62 H63 =>
 J59 (decide (((w .i64 (x20.2 + 1)) : Int) > r62)) H63) H54)
 (J59 false H54))))
 (fun J45 => ift (((c41.toNat : Int) : Int) == (c17.toNat : Int))
 (slS p_s x25 (w .i64 (x25 + (List.length p_substr : Int))) fun t48 =>
 J45 (t48 == p_substr) H26)
 (J45 false H26)))
 (fun J24 => ixs p_s x20.1 fun c28 =>
 ift (((c28.toNat : Int) : Int) != (c14.toNat : Int))
 (slS p_s (w .i64 (x20.1 + 1)) (w .i64 ((w .i64 ((List.length p_s : Int) - (List.length p_substr : Int))) + 1)) fun t32 =>
 QD C t32 (c14.toNat : Int) (fun r38 H39 =>
 ift (decide ((r38 : Int) < 0))
 (K (-1) H39)
 (J24 (w .i64 (x20.1 + (w .i64 (r38 + 1)))) H39)) H22)
 (J24 x20.1 H22)))
 (K (-1) H22))))))
theorem QbR (C p_s p_substr K H) (h : Qas C p_s p_substr K H) : QN C p_s p_substr K H := by
 refine Ye Tryz.func142 rfl Tryz.ntmps142 [(0, sv p_s), (1, sv p_substr)] (Zo (Za (GL.nil (Zo (Zm (Zr (Za (GL.nil (GC.seq (GC.block (Zo (Zm (Zi (.bool (((List.length p_substr : Int) : Int) == 0)) (Zm (GL.cut0 4 [(23, .bool ((((List.length p_substr : Int) : Int) == 0) || (p_substr == p_s))), (0, sv p_s), (1, sv p_substr), (5, .int .i64 (List.length p_substr : Int))] ?_ ?_)))))))))))))))
 rcases Zb (((List.length p_substr : Int) : Int) == 0) with hc1 | hc1
 refine Zk hc1 (Zk hc1 (Zk hc1 (Zt hc1 ?_)))
 exact GL.jump0 (fun _ _ h => h) () rfl ⟨(by rw [hc1]; rfl), rfl, rfl, rfl, trivial⟩
 refine Zu hc1 Ym (Zu hc1 Ym (Zu hc1 (OV.sbin (a := p_substr) (b := p_s) (v := .bool (p_substr == p_s)) rfl rfl rfl) (Zn hc1 ?_)))
 exact GL.jump0 (fun _ _ h => h) () rfl ⟨(by rw [hc1]; rfl), rfl, rfl, rfl, trivial⟩
 refine Za (GL.nil (Yd h (fun hc2 h => ?_) fun hc2 h => ?_))
 refine Zo (Za (GL.nil ?_))
 exact Y1 I3 ⟨0, rfl, h⟩
 refine Zo (Zm (Zi (.bool (((List.length p_substr : Int) : Int) == 1)) (Za (GL.nil (Yd h (fun hc3 h => ?_) fun hc3 h => ?_)))))
 refine Zo (Zm (Zm (Ys h fun c4 h => ?_)))
 refine Zc h Q6 ?_
 rintro _ H8 ⟨r7, rfl, h⟩
 refine Za (GL.nil ?_)
 exact Y1 I3 ⟨r7, rfl, h⟩
 refine Zo (Zm (Zm (Zr (Zi (.bool (decide (((List.length p_substr : Int) : Int) ≥ (List.length p_s : Int)))) (Za (GL.nil (Yd h (fun hc9 h => ?_) fun hc9 h => ?_)))))))
 refine Zo (Za (GL.nil ?_))
 exact Y1 I3 ⟨(-1), rfl, h⟩
 refine Zo (Zm (Yl h fun x10 h => ?_))
 refine Zi (.bool (decide (((List.length p_substr : Int) : Int) ≤ x10))) (Zm (GL.cut0 4 [(44, .bool ((decide (((List.length p_substr : Int) : Int) ≤ x10)) && (decide (((List.length p_s : Int) : Int) ≤ 64)))), (0, sv p_s), (1, sv p_substr), (5, .int .i64 (List.length p_substr : Int))] ?_ ?_))
 rcases Zb (decide (((List.length p_substr : Int) : Int) ≤ x10)) with hc12 | hc12
 refine Zu hc12 Ym (Zu hc12 (OV.lenStr rfl rfl) (Zu hc12 (OV.ibin (v := .bool (decide (((List.length p_s : Int) : Int) ≤ 64))) rfl rfl rfl) (Zt hc12 ?_)))
 exact GL.jump0 (fun _ _ h => h) () rfl ⟨(by rw [hc12]; rfl), rfl, rfl, rfl, trivial⟩
 refine Zk hc12 (Zk hc12 (Zk hc12 (Zn hc12 ?_)))
 exact GL.jump0 (fun _ _ h => h) () rfl ⟨(by rw [hc12]; rfl), rfl, rfl, rfl, trivial⟩
 refine Za (GL.nil (Yd h (fun hc13 h => ?_) fun hc13 h => ?_))
 refine GC.seq ?_
 exact GC.never h
 refine GC.skip_to (fun _ _ h => h) (Zo (Zm ?_))
 refine Ys h fun c14 h => ?_
 refine Za (GL.nil (Zo (Zm (Ys h fun c17 h => ?_))))
 refine Za (GL.nil (Zo (Za (GL.nil (Zo (Zm (Zr (Zm (Zi (.int .i64 (w .i64 ((List.length p_s : Int) - (List.length p_substr : Int)))) (Zi (.int .i64 (w .i64 ((w .i64 ((List.length p_s : Int) - (List.length p_substr : Int))) + 1))) (Za (GL.nil (Zo (Za (GL.nil (GC.seq (GC.block (Yp h (fun x20 => [(8, .int .i64 x20.1), (10, .int .i64 x20.2), (0, sv p_s), (1, sv p_substr), (5, .int .i64 (List.length p_substr : Int)), (6, .int .u8 (c14.toNat : Int)), (7, .int .u8 (c17.toNat : Int)), (9, .int .i64 (w .i64 ((w .i64 ((List.length p_s : Int) - (List.length p_substr : Int))) + 1)))]) ?_))))))))))))))))))
 intro x20 H22 J21 h
 refine GC.seq (Zo (Zm (Zm (Zi (.bool (decide ((x20.1 : Int) < (w .i64 ((w .i64 ((List.length p_s : Int) - (List.length p_substr : Int))) + 1))))) (GL.nil (Yd h (fun hc23 h => ?_) fun hc23 h => ?_))))))
 refine GC.skip (GC.block ?_)
 obtain ⟨J24, h, hR27⟩ := h
 refine GC.join (α := Int) J24 (fun x25 => [(8, .int .i64 x25), (0, sv p_s), (1, sv p_substr), (5, .int .i64 (List.length p_substr : Int)), (6, .int .u8 (c14.toNat : Int)), (7, .int .u8 (c17.toNat : Int)), (9, .int .i64 (w .i64 ((w .i64 ((List.length p_s : Int) - (List.length p_substr : Int))) + 1))), (10, .int .i64 x20.2)]) ?_ ?_
 refine Zo (Zm (Zm (Ys h fun c28 h => ?_)))
 refine Zm (Zi (.bool (((c28.toNat : Int) : Int) != (c14.toNat : Int))) (GL.nil (Yd h (fun hc31 h => ?_) fun hc31 h => ?_)))
 refine Zo (Zm (Zm (Zi (.int .i64 (w .i64 (x20.1 + 1))) (Zm ?_))))
 obtain ⟨h33, h34, h35, t32, h36, h⟩ := h
 refine Zv (OV.sliceStr (s := p_s) h33 h34 h35 h36 rfl rfl rfl rfl rfl rfl) (Zm (Zc h Q6 ?_))
 rintro _ H39 ⟨r38, rfl, h⟩
 refine Za (GL.nil (GC.seq (Zo (Zm (Zi (.bool (decide ((r38 : Int) < 0))) (GL.nil (Yd h (fun hc40 h => ?_) fun hc40 h => ?_)))))))
 refine Zo (Za (GL.nil ?_))
 exact Y1 I3 ⟨(-1), rfl, h⟩
 refine GC.skip (GC.region (Zm (Zm (Zi (.int .i64 (w .i64 (r38 + 1))) (Zi (.int .i64 (w .i64 (x20.1 + (w .i64 (r38 + 1))))) (Za ?_))))))
 exact Yj I3 (w .i64 (x20.1 + (w .i64 (r38 + 1)))) h
 exact Yk I3 x20.1 h
 intro x25 H26 h
 replace h := hR27 x25 H26 h
 refine GC.seq (Zo (Zm (Zm (Zi (.int .i64 (w .i64 (x25 + 1))) (Ys h fun c41 h => ?_)))))
 refine Zm (Zi (.bool (((c41.toNat : Int) : Int) == (c17.toNat : Int))) (Zm ?_))
 obtain ⟨J45, h, hR46⟩ := h
 refine GL.cut (α := Bool) 9 J45 (fun b44 => [(93, .bool b44), (0, sv p_s), (1, sv p_substr), (5, .int .i64 (List.length p_substr : Int)), (6, .int .u8 (c14.toNat : Int)), (7, .int .u8 (c17.toNat : Int)), (8, .int .i64 x25), (9, .int .i64 (w .i64 ((w .i64 ((List.length p_s : Int) - (List.length p_substr : Int))) + 1))), (10, .int .i64 x20.2)]) ?_ ?_
 rcases h.em with ⟨hc47, h⟩ | ⟨hc47, h⟩
 refine Zu hc47 Ym (Zu hc47 Ym (Zu hc47 Ym (Zu hc47 Ym (Zu hc47 (OV.ibin (v := .int .i64 (w .i64 (x25 + (List.length p_substr : Int)))) rfl rfl rfl) ?_))))
 obtain ⟨h49, h50, h51, t48, h52, h⟩ := h
 refine Zu hc47 (OV.sliceStr (s := p_s) h49 h50 h51 h52 rfl rfl rfl rfl rfl rfl) (Zu hc47 Ym (Zu hc47 (OV.sbin (a := t48) (b := p_substr) (v := .bool (t48 == p_substr)) rfl rfl rfl) (Zt hc47 ?_)))
 exact Yj I3 (t48 == p_substr) h
 refine Zk hc47 (Zk hc47 (Zk hc47 (Zk hc47 (Zk hc47 (Zk hc47 (Zk hc47 (Zk hc47 (Zn hc47 ?_))))))))
 exact Yj I3 false h
 intro b44 H54 h
 replace h := hR46 b44 H54 h
 refine GL.nil (Yd h (fun hc55 h => ?_) fun hc55 h => ?_)
 refine Zo (Zm (Za (GL.nil ?_)))
 exact Y1 I3 ⟨x25, rfl, h⟩
 refine GC.skip (Zo (Zm (Zi (.int .i64 (w .i64 (x25 + 1))) (Za (GL.nil (Zo (Zm (Zi (.int .i64 (w .i64 (x20.2 + 1))) (Za (GL.nil (Zo (Zm (Yl h fun x56 h => ?_)))))))))))))
 refine Zi (.bool (decide (((List.length p_substr : Int) : Int) ≤ x56))) (Zm ?_)
 obtain ⟨J59, h, hR60⟩ := h
 refine GL.cut (α := Bool) 5 J59 (fun b58 => [(107, .bool b58), (0, sv p_s), (1, sv p_substr), (5, .int .i64 (List.length p_substr : Int)), (6, .int .u8 (c14.toNat : Int)), (7, .int .u8 (c17.toNat : Int)), (8, .int .i64 (w .i64 (x25 + 1))), (9, .int .i64 (w .i64 ((w .i64 ((List.length p_s : Int) - (List.length p_substr : Int))) + 1))), (10, .int .i64 (w .i64 (x20.2 + 1)))]) ?_ ?_
 rcases h.em with ⟨hc61, h⟩ | ⟨hc61, h⟩
 refine Zu hc61 Ym (Zu hc61 Ym (GL.call h (Yt hc61) rfl Qcf (vs := [.int .i64 (w .i64 (x25 + 1))]) rfl ?_))
 rintro _ H63 ⟨r62, rfl, h⟩
 refine Zu hc61 (OV.ibin (v := .bool (decide (((w .i64 (x20.2 + 1)) : Int) > r62))) rfl rfl rfl) (Zt hc61 ?_)
 exact Yj I3 (decide (((w .i64 (x20.2 + 1)) : Int) > r62)) h
 refine Zk hc61 (Zk hc61 (Zk hc61 (Zk hc61 (Zn hc61 ?_))))
 exact Yj I3 false h
 intro b58 H64 h
 replace h := hR60 b58 H64 h
 refine GL.nil (Yd h (fun hc65 h => ?_) fun hc65 h => ?_)
 refine GC.seq ?_
 exact GC.never h
 refine Zo (Zm (Yl h fun x72 h => ?_))
 refine Zi (.bool (decide (((List.length p_substr : Int) : Int) > x72))) (Zm (GL.cut0 6 [(127, .bool ((decide (((List.length p_substr : Int) : Int) > x72)) && (decide (((w .i64 (x20.2 + 1)) : Int) ≥ (w .i64 (4 + (sShr .i64 (w .i64 (x25 + 1)) 4))))))), (0, sv p_s), (1, sv p_substr), (5, .int .i64 (List.length p_substr : Int)), (6, .int .u8 (c14.toNat : Int)), (7, .int .u8 (c17.toNat : Int)), (8, .int .i64 (w .i64 (x25 + 1))), (9, .int .i64 (w .i64 ((w .i64 ((List.length p_s : Int) - (List.length p_substr : Int))) + 1))), (10, .int .i64 (w .i64 (x20.2 + 1)))] ?_ ?_))
 rcases Zb (decide (((List.length p_substr : Int) : Int) > x72)) with hc74 | hc74
 refine Zu hc74 Ym (Zu hc74 Ym (Zu hc74 (OV.shr rfl rfl (by decide)) (Zu hc74 (OV.ibin (v := .int .i64 (w .i64 (4 + (sShr .i64 (w .i64 (x25 + 1)) 4)))) rfl rfl rfl) (Zu hc74 (OV.ibin (v := .bool (decide (((w .i64 (x20.2 + 1)) : Int) ≥ (w .i64 (4 + (sShr .i64 (w .i64 (x25 + 1)) 4)))))) rfl rfl rfl) (Zt hc74 ?_)))))
 exact GL.jump0 (fun _ _ h => h) () rfl ⟨(by rw [hc74]; rfl), rfl, rfl, rfl, rfl, rfl, rfl, rfl, rfl, trivial⟩
 refine Zk hc74 (Zk hc74 (Zk hc74 (Zk hc74 (Zk hc74 (Zn hc74 ?_)))))
 exact GL.jump0 (fun _ _ h => h) () rfl ⟨(by rw [hc74]; rfl), rfl, rfl, rfl, rfl, rfl, rfl, rfl, rfl, trivial⟩
 refine Zm (GL.cut0 4 [(132, .bool (((decide (((List.length p_substr : Int) : Int) > x72)) && (decide (((w .i64 (x20.2 + 1)) : Int) ≥ (w .i64 (4 + (sShr .i64 (w .i64 (x25 + 1)) 4)))))) && (decide (((w .i64 (x25 + 1)) : Int) < (w .i64 ((w .i64 ((List.length p_s : Int) - (List.length p_substr : Int))) + 1)))))), (0, sv p_s), (1, sv p_substr), (5, .int .i64 (List.length p_substr : Int)), (6, .int .u8 (c14.toNat : Int)), (7, .int .u8 (c17.toNat : Int)), (8, .int .i64 (w .i64 (x25 + 1))), (9, .int .i64 (w .i64 ((w .i64 ((List.length p_s : Int) - (List.length p_substr : Int))) + 1))), (10, .int .i64 (w .i64 (x20.2 + 1)))] ?_ ?_)
 rcases Zb ((decide (((List.length p_substr : Int) : Int) > x72)) && (decide (((w .i64 (x20.2 + 1)) : Int) ≥ (w .i64 (4 + (sShr .i64 (w .i64 (x25 + 1)) 4)))))) with hc75 | hc75
 refine Zu hc75 Ym (Zu hc75 Ym (Zu hc75 (OV.ibin (v := .bool (decide (((w .i64 (x25 + 1)) : Int) < (w .i64 ((w .i64 ((List.length p_s : Int) - (List.length p_substr : Int))) + 1))))) rfl rfl rfl) (Zt hc75 ?_)))
 exact GL.jump0 (fun _ _ h => h) () rfl ⟨(by rw [hc75]; rfl), rfl, rfl, rfl, rfl, rfl, rfl, rfl, rfl, trivial⟩
 refine Zk hc75 (Zk hc75 (Zk hc75 (Zn hc75 ?_)))
 exact GL.jump0 (fun _ _ h => h) () rfl ⟨(by rw [hc75]; rfl), rfl, rfl, rfl, rfl, rfl, rfl, rfl, rfl, trivial⟩
 refine GL.nil (Yd h (fun hc76 h => ?_) fun hc76 h => ?_)
 refine Zo (Zm (Zm ?_))
 obtain ⟨h78, h79, h80, t77, h81, h⟩ := h
 refine Zv (OV.sliceStr (s := p_s) h78 h79 h80 h81 rfl rfl rfl rfl rfl rfl) (Zm (Zc h Qaw ?_))
 rintro _ H84 ⟨r83, rfl, h⟩
 refine Za (GL.nil (GC.seq (Zo (Zm (Zi (.bool (decide ((r83 : Int) < 0))) (GL.nil (Yd h (fun hc85 h => ?_) fun hc85 h => ?_)))))))
 refine Zo (Za (GL.nil ?_))
 exact Y1 I3 ⟨(-1), rfl, h⟩
 refine GC.skip (Zo (Zm (Zm (Zi (.int .i64 (w .i64 ((w .i64 (x25 + 1)) + r83))) (Za (GL.nil ?_))))))
 exact Y1 I3 ⟨(w .i64 ((w .i64 (x25 + 1)) + r83)), rfl, h⟩
 exact Yk I3 ((w .i64 (x25 + 1)), (w .i64 (x20.2 + 1))) h
 refine GC.exit_to (fun _ _ h => h) (Zo (Za (GL.nil ?_)))
 exact Y1 I3 ⟨(-1), rfl, h⟩
def Q8 (C : Ctx) (p_s : Str) (p_prefix : Str) (K : Str → Bool → Heap → Prop) (H : Heap) : Prop :=
 Qg C p_s p_prefix (fun r1 H2 =>
 ift (!r1)
 (K p_s false H2)
 (slS p_s (List.length p_prefix : Int) (List.length p_s : Int) fun t4 =>
 K t4 true H2)) H
theorem Qbj (C p_s p_prefix K H) (h : Q8 C p_s p_prefix K H) : Qad C p_s p_prefix K H := by
 refine Ye Tryz.func143 rfl Tryz.ntmps143 [(0, sv p_s), (1, sv p_prefix)] (Zo (Za (Za (GL.nil (GC.seq (Zo (Zm (Zm (Zc h QA ?_)))))))))
 rintro _ H2 ⟨r1, rfl, h⟩
 refine Zv (OV.not rfl) (GL.nil (Yd h (fun u3 h => ?_) fun u3 h => ?_))
 refine Zo (Zm (Za (Za (GL.nil ?_))))
 exact Y2 I3 ⟨p_s, false, rfl, h⟩
 refine GC.skip (Zo (Zm (Zm (Zr ?_))))
 obtain ⟨h5, h6, h7, t4, h8, h⟩ := h
 refine Zv (OV.sliceStr (s := p_s) h5 h6 h7 h8 rfl rfl rfl rfl rfl rfl) (Za (Za (GL.nil ?_)))
 exact Y2 I3 ⟨t4, true, rfl, h⟩
def QcG (C : Ctx) (p_x : Int) (K : Bool → Heap → Prop) (H : Heap) : Prop :=
 K ((p_x : Int) != p_x) H
theorem Qfk (C p_x K H) (h : QcG C p_x K H) : QaN C p_x K H := by
 refine Ye Tryz.func147 rfl Tryz.ntmps147 [(0, .int .u8 p_x)] (Zo (Za (GL.nil (Zo (Zm (Zm (Zi (.bool ((p_x : Int) != p_x)) (Za (GL.nil ?_)))))))))
 exact Y1 I3 ⟨((p_x : Int) != p_x), rfl, h⟩
def Qb0 (C : Ctx) (p_s : Str) (p_prefix : Str) (K : Bool → Heap → Prop) (H : Heap) : Prop :=
 Qg C p_s p_prefix (fun r1 H2 =>
 K r1 H2) H
theorem QeG (C p_s p_prefix K H) (h : Qb0 C p_s p_prefix K H) : Qam C p_s p_prefix K H := by
 refine Ye Tryz.func148 rfl Tryz.ntmps148 [(0, sv p_s), (1, sv p_prefix)] (Zo (Za (GL.nil (Zo (Zm (Zm (Zc h QA ?_)))))))
 rintro _ H2 ⟨r1, rfl, h⟩
 refine Za (GL.nil ?_)
 exact Y1 I3 ⟨r1, rfl, h⟩
def QcE (C : Ctx) (p_x : Int) (p_y : Int) (K : Int → Heap → Prop) (H : Heap) : Prop :=
 Qbm C p_x (fun r1 H2 =>
 Qbm C p_y (fun r3 H4 =>
 ift r1
 (ift r3
 (K 0 H4)
 (K (-1) H4))
 (ift r3
 (K 1 H4)
 (ift (decide ((p_x : Int) < p_y))
 (K (-1) H4)
 (ift (decide ((p_x : Int) > p_y))
 (K 1 H4)
 (K 0 H4))))) H2) H
theorem Qfi (C p_x p_y K H) (h : QcE C p_x p_y K H) : QbA C p_x p_y K H := by
 refine Ye Tryz.func149 rfl Tryz.ntmps149 [(0, .int .i64 p_x), (1, .int .i64 p_y)] (Zo (Za (GL.nil (Zo (Zm (Zc h QdX ?_))))))
 rintro _ H2 ⟨r1, rfl, h⟩
 refine Za (GL.nil (Zo (Zm (Zc h QdX ?_))))
 rintro _ H4 ⟨r3, rfl, h⟩
 refine Za (GL.nil (GC.seq (Zo (Zm (GL.nil (Yd h (fun u5 h => ?_) fun u5 h => ?_))))))
 refine GC.seq (Zo (Zm (GL.nil (Yd h (fun u6 h => ?_) fun u6 h => ?_))))
 refine Zo (Za (GL.nil ?_))
 exact Y1 I3 ⟨0, rfl, h⟩
 refine GC.skip (Zo (Za (GL.nil ?_)))
 exact Y1 I3 ⟨(-1), rfl, h⟩
 refine GC.skip (GC.seq (Zo (Zm (GL.nil (Yd h (fun u7 h => ?_) fun u7 h => ?_)))))
 refine Zo (Za (GL.nil ?_))
 exact Y1 I3 ⟨1, rfl, h⟩
 refine GC.skip (GC.seq (Zo (Zm (Zm (Zi (.bool (decide ((p_x : Int) < p_y))) (GL.nil (Yd h (fun u8 h => ?_) fun u8 h => ?_)))))))
 refine Zo (Za (GL.nil ?_))
 exact Y1 I3 ⟨(-1), rfl, h⟩
 refine GC.skip (GC.seq (Zo (Zm (Zm (Zi (.bool (decide ((p_x : Int) > p_y))) (GL.nil (Yd h (fun u9 h => ?_) fun u9 h => ?_)))))))
 refine Zo (Za (GL.nil ?_))
 exact Y1 I3 ⟨1, rfl, h⟩
 refine GC.skip (Zo (Za (GL.nil ?_)))
 exact Y1 I3 ⟨0, rfl, h⟩
def Qcl (C : Ctx) (p_x : Str) (K : Bool → Heap → Prop) (H : Heap) : Prop :=
 K (!(p_x == p_x)) H
theorem Qe5 (C p_x K H) (h : Qcl C p_x K H) : Qax C p_x K H := by
 refine Ye Tryz.func150 rfl Tryz.ntmps150 [(0, sv p_x)] (Zo (Za (GL.nil (Zo (Zm (Zm (Zv (OV.sbin (a := p_x) (b := p_x) (v := .bool (!(p_x == p_x))) rfl rfl rfl) (Za (GL.nil ?_)))))))))
 exact Y1 I3 ⟨(!(p_x == p_x)), rfl, h⟩
def QcF (C : Ctx) (p_x : Int) (K : Bool → Heap → Prop) (H : Heap) : Prop :=
 K ((p_x : Int) != p_x) H
theorem Qfj (C p_x K H) (h : QcF C p_x K H) : QaM C p_x K H := by
 refine Ye Tryz.func151 rfl Tryz.ntmps151 [(0, .int .i64 p_x)] (Zo (Za (GL.nil (Zo (Zm (Zm (Zi (.bool ((p_x : Int) != p_x)) (Za (GL.nil ?_)))))))))
 exact Y1 I3 ⟨((p_x : Int) != p_x), rfl, h⟩
def Q9 (C : Ctx) (p_s : Str) (p_prefix : Str) (K : Bool → Heap → Prop) (H : Heap) : Prop :=
 jn (α := Bool) (fun b1 H11 =>
 K b1 H11)
 (fun J2 => ift (decide (((List.length p_s : Int) : Int) ≥ (List.length p_prefix : Int)))
 (slS p_s 0 (List.length p_prefix : Int) fun t5 =>
 J2 (t5 == p_prefix) H)
 (J2 false H))
theorem Qbk (C p_s p_prefix K H) (h : Q9 C p_s p_prefix K H) : Qg C p_s p_prefix K H := by
 refine Ye Tryz.func152 rfl Tryz.ntmps152 [(0, sv p_s), (1, sv p_prefix)] (Zo (Za (GL.nil (Zo (Zm (Zr (Zm (Zr (Zi (.bool (decide (((List.length p_s : Int) : Int) ≥ (List.length p_prefix : Int)))) (Zm ?_))))))))))
 obtain ⟨J2, h, hR3⟩ := h
 refine GL.cut (α := Bool) 7 J2 (fun b1 => [(17, .bool b1)]) ?_ ?_
 rcases h.em with ⟨u4, h⟩ | ⟨u4, h⟩
 refine Zu u4 Ym (Zu u4 Ym (Zu u4 (OV.lenStr rfl rfl) ?_))
 obtain ⟨h6, h7, h8, t5, h9, h⟩ := h
 refine Zu u4 (OV.sliceStr (s := p_s) h6 h7 h8 h9 rfl rfl rfl rfl rfl rfl) (Zu u4 Ym (Zu u4 (OV.sbin (a := t5) (b := p_prefix) (v := .bool (t5 == p_prefix)) rfl rfl rfl) (Zt u4 ?_)))
 exact Yj I3 (t5 == p_prefix) h
 refine Zk u4 (Zk u4 (Zk u4 (Zk u4 (Zk u4 (Zk u4 (Zn u4 ?_))))))
 exact Yj I3 false h
 intro b1 H11 h
 replace h := hR3 b1 H11 h
 refine Za (GL.nil ?_)
 exact Y1 I3 ⟨b1, rfl, h⟩
def QaD (C : Ctx) (p_as : Option (Nat × Nat)) (p_c : Int) (K : Bool → Heap → Prop) (H : Heap) : Prop :=
 nck p_as fun p1 =>
 ixr p1 256 p_c <|
 ldB H (p1.1, p1.2 + (p_c : Int).toNat * 1) fun x5 =>
 K x5 H
theorem Qb3 (C p_as p_c K H) (h : QaD C p_as p_c K H) : Qz C p_as p_c K H := by
 refine Ye Tryz.func153 rfl Tryz.ntmps153 [(0, pv p_as), (1, .int .u8 p_c)] (Zo (Za (GL.nil (Zo (Zm (Zm ?_))))))
 obtain ⟨p1, hp2, h⟩ := h
 refine Zv (OV.nilCheck (q := p_as) rfl hp2) ?_
 obtain ⟨ha3, hb4, h⟩ := h
 refine Zv (OV.indexAddrA (p := p1) rfl rfl rfl rfl ha3 hb4) (Yl h fun x5 h => ?_)
 refine Za (GL.nil ?_)
 exact Y1 I3 ⟨x5, rfl, h⟩
def Qaa (C : Ctx) (p_s : Str) (p_c : Int) (K : Int → Heap → Prop) (H : Heap) : Prop :=
 K (idxB p_s p_c) H
theorem Qbl (C p_s p_c K H) (h : Qaa C p_s p_c K H) : QD C p_s p_c K H := by
 refine Ye Tryz.func157 rfl Tryz.ntmps157 [(0, sv p_s), (1, .int .u8 p_c)] (Zo (Za (GL.nil (Zo (Zm (Zm (Zv (OV.ext QaZ (vs := [sv p_s, .int .u8 p_c]) (v := .int .i64 (idxB p_s p_c)) rfl (fun w => Qmt _ _ w)) (Za (GL.nil ?_)))))))))
 exact Y1 I3 ⟨(idxB p_s p_c), rfl, h⟩
def Qd1 (C : Ctx) (p_x : Int) (K : Bool → Heap → Prop) (H : Heap) : Prop :=
 K ((p_x : Int) != p_x) H
theorem QgF (C p_x K H) (h : Qd1 C p_x K H) : Qbm C p_x K H := by
 refine Ye Tryz.func161 rfl Tryz.ntmps161 [(0, .int .i64 p_x)] (Zo (Za (GL.nil (Zo (Zm (Zm (Zi (.bool ((p_x : Int) != p_x)) (Za (GL.nil ?_)))))))))
 exact Y1 I3 ⟨((p_x : Int) != p_x), rfl, h⟩
end
end Sx
end
noncomputable section
set_option linter.unusedVariables false
namespace Go.Proofs
open Go.Shelf
def Tryz.lays171_ren : Go.Shelf.Ren := ⟨fun | 171 => 35 | 243 => 48 | 246 => 63 | 283 => 85 | 284 => 86 | 285 => 87 | 286 => 88 | 129 => 100 | 317 => 117 | 318 => 118 | 319 => 119 | 320 => 120 | 337 => 144 | 338 => 145 | n => n, fun | 3 => 3 | 9 => 9 | 2 => 2 | 4 => 4 | 171 => 118 | 0 => 0 | 53 => 119 | 37 => 79 | 5 => 5 | 173 => 122 | 212 => 151 | 51 => 135 | 20 => 20 | 213 => 152 | 46 => 41 | 232 => 181 | 233 => 182 | n => n, fun | 17 => 0 | 18 => 2 | 19 => 3 | n => n⟩
theorem Tryz.lays171 : Go.Proofs.LaysM.n171 Tryz.prog Tryz.lays171_ren := {
 mixed := by kernel_rfl
 f129 := Tryz.func100.trans (congrArg some (by kernel_rfl))
 f171 := Tryz.func35.trans (congrArg some (by kernel_rfl))
 f243 := Tryz.func48.trans (congrArg some (by kernel_rfl))
 f246 := Tryz.func63.trans (congrArg some (by kernel_rfl))
 f283 := Tryz.func85.trans (congrArg some (by kernel_rfl))
 f284 := Tryz.func86.trans (congrArg some (by kernel_rfl))
 f285 := Tryz.func87.trans (congrArg some (by kernel_rfl))
 f286 := Tryz.func88.trans (congrArg some (by kernel_rfl))
 f317 := Tryz.func117.trans (congrArg some (by kernel_rfl))
 f318 := Tryz.func118.trans (congrArg some (by kernel_rfl))
 f319 := Tryz.func119.trans (congrArg some (by kernel_rfl))
 f320 := Tryz.func120.trans (congrArg some (by kernel_rfl))
 f337 := Tryz.func144.trans (congrArg some (by kernel_rfl))
 f338 := Tryz.func145.trans (congrArg some (by kernel_rfl))
 t0 := Tryz.underlying0
 a0 := Tryz.isAgg0
 z0 := Tryz.sizeOf0
 v0 := Tryz.zeroValue0
 t2 := Tryz.underlying2
 a2 := Tryz.isAgg2
 z2 := Tryz.sizeOf2
 v2 := Tryz.zeroValue2
 t3 := Tryz.underlying3
 a3 := Tryz.isAgg3
 z3 := Tryz.sizeOf3
 v3 := Tryz.zeroValue3
 t4 := Tryz.underlying4
 a4 := Tryz.isAgg4
 z4 := Tryz.sizeOf4
 v4 := Tryz.zeroValue4
 t5 := Tryz.underlying5
 a5 := Tryz.isAgg5
 z5 := Tryz.sizeOf5
 v5 := Tryz.zeroValue5
 t9 := Tryz.underlying9
 a9 := Tryz.isAgg9
 z9 := Tryz.sizeOf9
 v9 := Tryz.zeroValue9
 t20 := Tryz.underlying20
 a20 := Tryz.isAgg20
 z20 := Tryz.sizeOf20
 v20 := Tryz.zeroValue20
 t37 := Tryz.underlying79
 a37 := Tryz.isAgg79
 z37 := Tryz.sizeOf79
 v37 := Tryz.zeroValue79
 t46 := Tryz.underlying41
 a46 := Tryz.isAgg41
 z46 := Tryz.sizeOf41
 v46 := Tryz.zeroValue41
 t51 := Tryz.underlying135
 a51 := Tryz.isAgg135
 z51 := Tryz.sizeOf135
 v51 := Tryz.zeroValue135
 t53 := Tryz.underlying119
 a53 := Tryz.isAgg119
 z53 := Tryz.sizeOf119
 v53 := Tryz.zeroValue119
 t171 := Tryz.underlying118
 a171 := Tryz.isAgg118
 z171 := Tryz.sizeOf118
 v171 := Tryz.zeroValue118
 t173 := Tryz.underlying122
 a173 := Tryz.isAgg122
 z173 := Tryz.sizeOf122
 v173 := Tryz.zeroValue122
 t212 := Tryz.underlying151
 a212 := Tryz.isAgg151
 z212 := Tryz.sizeOf151
 v212 := Tryz.zeroValue151
 t213 := Tryz.underlying152
 a213 := Tryz.isAgg152
 z213 := Tryz.sizeOf152
 t232 := Tryz.underlying181
 a232 := Tryz.isAgg181
 z232 := Tryz.sizeOf181
 v232 := Tryz.zeroValue181
 t233 := Tryz.underlying182
 a233 := Tryz.isAgg182
 z233 := Tryz.sizeOf182
 v233 := Tryz.zeroValue182
 g17 := by kernel_rfl
 g18 := by kernel_rfl
 g19 := by kernel_rfl
 i0 := by kernel_rfl
 i2 := by kernel_rfl
 i3 := by kernel_rfl
 i4 := by kernel_rfl
 i5 := by kernel_rfl
 i9 := by kernel_rfl
 i20 := by kernel_rfl
 i37 := by kernel_rfl
 i46 := by kernel_rfl
 i51 := by kernel_rfl
 i53 := by kernel_rfl
 i171 := by kernel_rfl
 i173 := by kernel_rfl
 i212 := by kernel_rfl
 i232 := by kernel_rfl
 i233 := by kernel_rfl
 m17 := by kernel_rfl
 m18 := by kernel_rfl
 m19 := by kernel_rfl }
end Go.Proofs
namespace Sx
open Go Go.Proofs Go.Stop Go.RowKit
/-- the table of powers, as it was laid -/
def PowT (C : Ctx) : Prop := ∃ t fr, C.old[(Tryz.lays171_ren.g 17)]? = some (.cells (Lib.pow10Tab.map fun z => Value.int .u64 z).toArray t fr)
/-- what writes numbers -/
structure FmtC (C : Ctx) : Prop where
 ok : ∀ {n : Int} {H : Heap} {K : Str → Heap → Prop}, -9223372036854775808 ≤ n → n ≤ 9223372036854775807 → K (Lib.itoa n) H → Qau C n K H
theorem St.more {C : Ctx} {w : World} {H : Heap} (h : St C w H) (o : Obj) : St C { w with heap := w.heap.push o } H := by
 by_cases hc : ∃ c t fr, o = .cells c t fr
 ·obtain ⟨c, t, fr, rfl⟩ := hc
  exact (h.push (o := .cells c t fr) (m := false) (g := .row c.toList) ⟨by simp, fun h => by cases h⟩).weaken (Heap.le_put h.fresh)
 ·exact (h.push (o := o) (m := false) (g := .obj o) ⟨rfl, fun c t fr e => hc ⟨c, t, fr, e⟩⟩).weaken (Heap.le_put h.fresh)
theorem St.growL {C : Ctx} {H : Heap} : ∀ (os : List Obj) {w : World}, St C w H → St C { w with heap := w.heap ++ os.toArray } H
 | [], w, h => by
  have e : w.heap ++ ([] : List Obj).toArray = w.heap := by simp
  rw [e]; exact h
 | o :: os, w, h => by
  have e : w.heap ++ (o :: os).toArray = w.heap.push o ++ os.toArray := by apply Array.ext'; simp
  have := St.growL os (h.more o)
  rw [e]; exact this
theorem St.drewN {C : Ctx} {H : Heap} {w : World} (h : St C w H) : ∀ k, St C (w.drewN k) H
 | 0 => h
 | k + 1 => (St.drewN h k).drew
theorem QnL {C : Ctx} (hT : PowT C) : FmtC C := ⟨fun {n H K} h0 h1 k => by
 intro w hw
 obtain ⟨t, fr, hg⟩ := hT
 have hlt := (Array.getElem?_eq_some_iff.1 hg).1
 refine (Any.strconv_Itoa Tryz.lays171 n h0 h1 w ?_).mono ?_
 ·unfold Lib.TabIs World.var?
  rw [Tryz.lays171.m17]
  simp only [Option.bind_some]
  rw [hw.old _ hlt, hg]
 ·rintro e w' ⟨rfl, k', os, rfl⟩
  have h2 := St.growL os.toList (hw.drewN k')
  rw [Array.toArray_toList] at h2
  exact ⟨_, H, rfl, h2, ⟨_, rfl, k⟩⟩⟩
theorem Qkr {W : World} {name : String} (hg : Tryz.prog.globalNamed name = some (Tryz.lays171_ren.g 17)) : ∀ (i : Nat) {l : List (String × DataW Unit)} {ps : List MemPlace}, DataW.LaidVars Tryz.prog W l ps → l[i]? = some (name, Lib.tabData .u64 Lib.pow10Tab) → PowT (ctxOf W)
 | _, [], ps, _, hi => by simp at hi
 | 0, (n, d) :: r, ps, ⟨g, t, cs, fuel, p, q, h1, h2, h3, h4, h5, h6⟩, hi => by
  simp only [List.getElem?_cons_zero, Option.some.injEq, Prod.mk.injEq] at hi
  obtain ⟨rfl, rfl⟩ := hi
  obtain rfl := Option.some.inj (hg.symm.trans h1)
  have hT : (Tryz.prog.globals[(Tryz.lays171_ren.g 17)]?).map (·.type) = some 151 := by kernel_rfl
  obtain rfl := Option.some.inj (hT.symm.trans h2)
  have hc := Lib.cells_of_tab Tryz.underlying151 Tryz.underlying119 (by kernel_rfl) (by kernel_rfl) h4
  unfold World.var? at h3
  rw [h1] at h3
  simp only [Option.bind_some] at h3
  cases hb : W.heap[(Tryz.lays171_ren.g 17)]? with
  | none => rw [hb] at h3; cases h3
  | some o =>
   rw [hb] at h3
   cases o <;> simp only [reduceCtorEq, Option.some.injEq] at h3
   rename_i c ty fr
   subst h3
   refine ⟨ty, fr, ?_⟩
   show W.heap[(Tryz.lays171_ren.g 17)]? = _
   rw [hb, ← hc]
 | i + 1, (n, d) :: r, ps, ⟨g, t, cs, fuel, p, q, h1, h2, h3, h4, h5, h6⟩, hi => Qkr hg i h5 (by simpa using hi)
theorem Qnl {W : World} {name : String} {l : List (String × DataW Unit)} (h : laidMet Tryz.prog l W) (i : Nat) (hi : l[i]? = some (name, Lib.tabData .u64 Lib.pow10Tab)) (hg : Tryz.prog.globalNamed name = some (Tryz.lays171_ren.g 17)) : PowT (ctxOf W) := by
 obtain ⟨ps, h1, _⟩ := h
 exact Qkr hg i h1 hi
end Sx
end

noncomputable section
set_option linter.unusedVariables false
namespace Go.Proofs
open Go.Shelf
def Tryz.laysSrt_ren : Go.Shelf.Ren := ⟨fun | 6 => 52 | 15 => 67 | 14 => 66 | 28 => 99 | 29 => 100 | 20 => 91 | 21 => 92 | 22 => 93 | 23 => 94 | 24 => 95 | 25 => 96 | 26 => 97 | 27 => 98 | 46 => 121 | 47 => 122 | 48 => 123 | 49 => 124 | 50 => 125 | 57 => 146 | n => n, fun | 22 => 22 | 24 => 24 | 25 => 92 | 3 => 3 | 39 => 41 | 0 => 0 | 53 => 135 | 55 => 119 | 4 => 4 | 46 => 129 | 45 => 128 | 50 => 110 | 5 => 5 | 9 => 9 | 66 => 154 | 70 => 158 | 76 => 171 | 77 => 172 | n => n, fun | n => n⟩
theorem Tryz.laysSrt : Go.Proofs.SlLaysF.n6 Tryz.prog Tryz.laysSrt_ren := {
 mixed := by kernel_rfl
 f6 := ⟨Tryz.f52.name, by decide, Tryz.func52.trans (congrArg some (by kernel_rfl))⟩
 f14 := ⟨Tryz.f66.name, by decide, Tryz.func66.trans (congrArg some (by kernel_rfl))⟩
 f15 := Tryz.func67.trans (congrArg some (by kernel_rfl))
 f20 := ⟨Tryz.f91.name, by decide, Tryz.func91.trans (congrArg some (by kernel_rfl))⟩
 f21 := ⟨Tryz.f92.name, by decide, Tryz.func92.trans (congrArg some (by kernel_rfl))⟩
 f22 := ⟨Tryz.f93.name, by decide, Tryz.func93.trans (congrArg some (by kernel_rfl))⟩
 f23 := ⟨Tryz.f94.name, by decide, Tryz.func94.trans (congrArg some (by kernel_rfl))⟩
 f24 := ⟨Tryz.f95.name, by decide, Tryz.func95.trans (congrArg some (by kernel_rfl))⟩
 f25 := ⟨Tryz.f96.name, by decide, Tryz.func96.trans (congrArg some (by kernel_rfl))⟩
 f26 := ⟨Tryz.f97.name, by decide, Tryz.func97.trans (congrArg some (by kernel_rfl))⟩
 f27 := ⟨Tryz.f98.name, by decide, Tryz.func98.trans (congrArg some (by kernel_rfl))⟩
 f28 := Tryz.func99.trans (congrArg some (by kernel_rfl))
 f29 := Tryz.func100.trans (congrArg some (by kernel_rfl))
 f46 := ⟨Tryz.f121.name, by decide, Tryz.func121.trans (congrArg some (by kernel_rfl))⟩
 f47 := Tryz.func122.trans (congrArg some (by kernel_rfl))
 f48 := Tryz.func123.trans (congrArg some (by kernel_rfl))
 f49 := ⟨Tryz.f124.name, by decide, Tryz.func124.trans (congrArg some (by kernel_rfl))⟩
 f50 := ⟨Tryz.f125.name, by decide, Tryz.func125.trans (congrArg some (by kernel_rfl))⟩
 f57 := ⟨Tryz.f146.name, by decide, Tryz.func146.trans (congrArg some (by kernel_rfl))⟩
 t0 := Tryz.underlying0
 a0 := Tryz.isAgg0
 z0 := Tryz.sizeOf0
 v0 := Tryz.zeroValue0
 t3 := Tryz.underlying3
 a3 := Tryz.isAgg3
 z3 := Tryz.sizeOf3
 v3 := Tryz.zeroValue3
 t4 := Tryz.underlying4
 a4 := Tryz.isAgg4
 z4 := Tryz.sizeOf4
 v4 := Tryz.zeroValue4
 t5 := Tryz.underlying5
 a5 := Tryz.isAgg5
 z5 := Tryz.sizeOf5
 v5 := Tryz.zeroValue5
 t9 := Tryz.underlying9
 a9 := Tryz.isAgg9
 z9 := Tryz.sizeOf9
 v9 := Tryz.zeroValue9
 t22 := Tryz.underlying22
 a22 := Tryz.isAgg22
 z22 := Tryz.sizeOf22
 v22 := Tryz.zeroValue22
 a24 := Tryz.isAgg24
 z24 := Tryz.sizeOf24
 t25 := Tryz.underlying92
 a25 := Tryz.isAgg92
 z25 := Tryz.sizeOf92
 v25 := Tryz.zeroValue92
 t39 := Tryz.underlying41
 a39 := Tryz.isAgg41
 z39 := Tryz.sizeOf41
 v39 := Tryz.zeroValue41
 t45 := Tryz.underlying128
 a45 := Tryz.isAgg128
 z45 := Tryz.sizeOf128
 v45 := Tryz.zeroValue128
 t46 := Tryz.underlying129
 a46 := Tryz.isAgg129
 z46 := Tryz.sizeOf129
 v46 := Tryz.zeroValue129
 t50 := Tryz.underlying110
 a50 := Tryz.isAgg110
 z50 := Tryz.sizeOf110
 v50 := Tryz.zeroValue110
 t53 := Tryz.underlying135
 a53 := Tryz.isAgg135
 z53 := Tryz.sizeOf135
 v53 := Tryz.zeroValue135
 t55 := Tryz.underlying119
 a55 := Tryz.isAgg119
 z55 := Tryz.sizeOf119
 v55 := Tryz.zeroValue119
 t66 := Tryz.underlying154
 a66 := Tryz.isAgg154
 z66 := Tryz.sizeOf154
 v66 := Tryz.zeroValue154
 t70 := Tryz.underlying158
 a70 := Tryz.isAgg158
 z70 := Tryz.sizeOf158
 v70 := Tryz.zeroValue158
 t76 := Tryz.underlying171
 a76 := Tryz.isAgg171
 z76 := Tryz.sizeOf171
 v76 := Tryz.zeroValue171
 t77 := Tryz.underlying172
 a77 := Tryz.isAgg172
 z77 := Tryz.sizeOf172
 v77 := Tryz.zeroValue172 }
end Go.Proofs
end

noncomputable section
set_option linter.unusedVariables false
namespace Go.Proofs
open Go.Shelf
def Tryz.laysMap_ren : Go.Shelf.Ren := ⟨fun | 5 => 43 | 7 => 57 | n => n, fun | 23 => 58 | 25 => 9 | 3 => 24 | 4 => 4 | 20 => 20 | n => n, fun | n => n⟩
theorem Tryz.laysMap : Go.Proofs.SlLaysW.n5 Tryz.prog Tryz.laysMap_ren := {
 mixed := by kernel_rfl
 f5 := ⟨Tryz.f43.name, by decide, Tryz.func43.trans (congrArg some (by kernel_rfl))⟩
 f7 := Tryz.func57.trans (congrArg some (by kernel_rfl))
 t4 := Tryz.underlying4
 a4 := Tryz.isAgg4
 z4 := Tryz.sizeOf4
 v4 := Tryz.zeroValue4
 t20 := Tryz.underlying20
 a20 := Tryz.isAgg20
 z20 := Tryz.sizeOf20
 v20 := Tryz.zeroValue20
 t23 := Tryz.underlying58
 a23 := Tryz.isAgg58
 z23 := Tryz.sizeOf58
 v23 := Tryz.zeroValue58 }
end Go.Proofs
end

noncomputable section
set_option linter.unusedVariables false
set_option linter.unusedSimpArgs false
namespace Sx
open Go
inductive V where
 | mk (k n : Int) (s : Str) (l : List V)
namespace V
def k : V → Int | .mk k _ _ _ => k
def n : V → Int | .mk _ n _ _ => n
def s : V → Str | .mk _ _ s _ => s
def l : V → List V | .mk _ _ _ l => l
end V
mutual
def vsize : V → Nat
 | .mk _ _ _ l => vsizes l + 1
def vsizes : List V → Nat
 | [] => 0
 | v :: l => vsize v + vsizes l
end
theorem Qby : ∀ {l : List V} {v : V}, v ∈ l → vsize v ≤ vsizes l
 | w :: l, v, h => by
  simp only [vsizes]
  rcases List.mem_cons.1 h with rfl | h
  ·omega
  ·have := Qby h; omega
theorem Qjc {v w : V} (h : w ∈ v.l) : vsize w < vsize v := by
 obtain ⟨k, n, s, l⟩ := v
 have := Qby (show w ∈ l from h)
 simp only [vsize]; omega
/-- by how great a value is -/
theorem V.rec_ {P : V → Prop} (h : ∀ v, (∀ w ∈ v.l, P w) → P v) (v : V) : P v := by
 have : ∀ n v, vsize v ≤ n → P v := by
  intro n
  induction n with
  | zero => intro v hv; obtain ⟨k, n, s, l⟩ := v; simp [vsize] at hv
  | succ n ih => intro v hv; exact h v fun w hw => ih w (by have := Qjc hw; omega)
 exact this _ v (Nat.le_refl _)
mutual
def dep : V → Nat
 | .mk _ _ _ l => deps l + 1
def deps : List V → Nat
 | [] => 0
 | v :: l => max (dep v) (deps l)
end
theorem QmL (v : V) : dep v = deps v.l + 1 := by obtain ⟨k, n, s, l⟩ := v; rfl
theorem Qfa : ∀ (a b : List V), deps (a ++ b) = max (deps a) (deps b)
 | [], b => by simp [deps]
 | v :: a, b => by simp only [List.cons_append, deps, Qfa a b]; omega
theorem Qjr {l : List V} {i : Nat} (h : i < l.length) : deps (l.take (i + 1)) = max (deps (l.take i)) (dep l[i]) := by
 rw [List.take_add_one, List.getElem?_eq_getElem h, Option.toList_some, Qfa]; simp [deps]
theorem QjX : ∀ {l : List V} {v : V}, v ∈ l → dep v ≤ deps l
 | w :: l, v, h => by
  simp only [deps]
  rcases List.mem_cons.1 h with rfl | h
  ·omega
  ·have := QjX h; omega
theorem QjW (v : V) : dep v ≤ vsize v := by
 have h : ∀ (l : List V), (∀ w ∈ l, dep w ≤ vsize w) → deps l ≤ vsizes l := by
  intro l
  induction l with
  | nil => intro _; simp [deps]
  | cons v l ih =>
   intro h
   have h1 := h v (List.mem_cons_self ..)
   have h2 := ih fun w hw => h w (List.mem_cons_of_mem _ hw)
   simp only [deps, vsizes]; omega
 refine V.rec_ (P := fun v => dep v ≤ vsize v) (fun v ih => ?_) v
 obtain ⟨k, n, s, l⟩ := v
 have := h l ih
 simp only [dep, vsize]; omega
def lowC (c : UInt8) : Bool := decide (97 ≤ c.toNat) && decide (c.toNat ≤ 122)
def nameC (c : UInt8) : Bool := lowC c || (decide (65 ≤ c.toNat) && decide (c.toNat ≤ 90)) || (decide (48 ≤ c.toNat) && decide (c.toNat ≤ 57)) || decide (c.toNat = 95)
def nameS (s : Str) : Bool := !s.isEmpty && decide (s.length ≤ 32) && lowC (s.headD 0) && s.all nameC
def digC (c : UInt8) : Bool := decide (48 ≤ c.toNat) && decide (c.toNat ≤ 57)
def cutD : Str → Option (Str × Str)
 | [] => none
 | c :: t => if c = 46 then some ([], t) else (cutD t).map fun p => (c :: p.1, p.2)
theorem QiG : ∀ (a b : Str), (46 : UInt8) ∉ a → cutD (a ++ 46 :: b) = some (a, b)
 | [], b, _ => by simp [cutD]
 | c :: a, b, h => by
  have h1 : c ≠ 46 := fun e => h (by rw [e]; exact List.mem_cons_self ..)
  simp only [List.cons_append, cutD, if_neg h1, QiG a b fun hh => h (List.mem_cons_of_mem _ hh)]; rfl
theorem QiH : ∀ (a : Str), (46 : UInt8) ∉ a → cutD a = none
 | [], _ => rfl
 | c :: a, h => by
  have h1 : c ≠ 46 := fun e => h (by rw [e]; exact List.mem_cons_self ..)
  simp only [cutD, if_neg h1, QiH a fun hh => h (List.mem_cons_of_mem _ hh)]; rfl
theorem Qkg : ∀ (s : Str), (46 : UInt8) ∈ s → ∃ a b, s = a ++ 46 :: b ∧ 46 ∉ a
 | c :: s, h => by
  by_cases hc : c = 46
  ·exact ⟨[], s, by rw [hc]; rfl, by simp⟩
  ·obtain ⟨a, b, h1, h2⟩ := Qkg s (by simpa [Ne.symm hc] using h)
   exact ⟨c :: a, b, by rw [h1]; rfl, by simp [h2, Ne.symm hc]⟩
def trueS : Str := [116, 114, 117, 101]
def falseS : Str := [102, 97, 108, 115, 101]
def namesS (s : Str) : Bool := if s = trueS ∨ s = falseS then false else match cutD s with
 | some (a, b) => nameS a && nameS b
 | none => nameS s
def unmin (s : Str) : Str := if s.head? = some 45 then s.tail else s
def numS (s : Str) : Bool := !(unmin s).isEmpty && (unmin s).all digC && !(decide ((unmin s).head? = some 48) && decide (s ≠ [48]))
def digits (s : Str) : Nat := (unmin s).length
def okN (k n : Int) (s : Str) (m : Nat) : Bool :=
 if k = 1 then (n == 0 || n == 1) && s.isEmpty && decide (m = 0)
 else if k = 2 then s.isEmpty && decide (m = 0)
 else if k = 3 then numS s && n == 0 && decide (m = 0)
 else if k = 4 then n == 0 && decide (m = 0)
 else if k = 5 then n == 0 && s.isEmpty && decide (m ≠ 1)
 else if k = 6 then n == 0 && namesS s
 else false
def fitN (k : Int) (s : Str) (m : Nat) : Bool :=
 if k = 3 then decide (digits s ≤ 200)
 else if k = 4 then decide (s.length ≤ 4096)
 else if k = 5 then decide (m ≤ 16)
 else if k = 6 then decide (m ≤ 8)
 else true
mutual
def formV : V → Bool
 | .mk k n s l => okN k n s l.length && formVs l
def formVs : List V → Bool
 | [] => true
 | v :: l => formV v && formVs l
end
mutual
def fitsV : V → Bool
 | .mk k n s l => fitN k s l.length && fitsVs l
def fitsVs : List V → Bool
 | [] => true
 | v :: l => fitsV v && fitsVs l
end
theorem Qb5 (v : V) : formV v = (okN v.k v.n v.s v.l.length && formVs v.l) := by obtain ⟨k, n, s, l⟩ := v; rfl
theorem QgT (v : V) : fitsV v = (fitN v.k v.s v.l.length && fitsVs v.l) := by obtain ⟨k, n, s, l⟩ := v; rfl
theorem QfB : ∀ (a b : List V), formVs (a ++ b) = (formVs a && formVs b)
 | [], b => by simp [formVs]
 | v :: a, b => by simp only [List.cons_append, formVs, QfB a b, Bool.and_assoc]
theorem QdG : ∀ (a b : List V), fitsVs (a ++ b) = (fitsVs a && fitsVs b)
 | [], b => by simp [fitsVs]
 | v :: a, b => by simp only [List.cons_append, fitsVs, QdG a b, Bool.and_assoc]
theorem Qhj {l : List V} {i : Nat} (h : i < l.length) : formVs (l.take (i + 1)) = (formVs (l.take i) && formV l[i]) := by
 rw [List.take_add_one, List.getElem?_eq_getElem h, Option.toList_some, QfB]; simp [formVs]
theorem Qfb {l : List V} {i : Nat} (h : i < l.length) : fitsVs (l.take (i + 1)) = (fitsVs (l.take i) && fitsV l[i]) := by
 rw [List.take_add_one, List.getElem?_eq_getElem h, Option.toList_some, QdG]; simp [fitsVs]
theorem Qef : ∀ {l : List V} {v : V}, v ∈ l → formV v = false → formVs l = false
 | w :: l, v, h, hv => by
  simp only [formVs]
  rcases List.mem_cons.1 h with rfl | h
  ·rw [hv]; rfl
  ·rw [Qef h hv, Bool.and_false]
theorem Qbe : ∀ {l : List V} {v : V}, v ∈ l → formVs l = true → formV v = true := fun h hl => by
 cases hv : formV _ with
 | true => rfl
 | false => rw [Qef h hv] at hl; cases hl
def checkV (v : V) : Int := if dep v > 64 then 65 else if formV v = false then 4 else if fitsV v = false then 40 else 0
def mayV (v : V) : Bool := decide (checkV v = 0)
theorem Qma (v : V) : mayV v = true ↔ dep v ≤ 64 ∧ formV v = true ∧ fitsV v = true := by
 unfold mayV checkV
 rw [decide_eq_true_eq]
 by_cases h1 : dep v > 64
 ·simp [h1]; omega
 ·rw [if_neg h1]
  cases hf : formV v <;> cases hg : fitsV v <;> simp <;> omega
def sgn (a b : Int) : Int := if a < b then -1 else if b < a then 1 else 0
def vcmpS : Str → Str → Int
 | [], [] => 0
 | [], _ :: _ => -1
 | _ :: _, [] => 1
 | a :: s, b :: t => if a = b then vcmpS s t else sgn a.toNat b.toNat
/-- of whole numbers without their signs -/
def cmpD (a b : Str) : Int := if a.length = b.length then vcmpS a b else sgn a.length b.length
def isMin (s : Str) : Bool := decide (s.head? = some 45)
def cmpB (a b : Str) : Int := if isMin a then (if isMin b then cmpD b.tail a.tail else -1) else if isMin b then 1 else cmpD a b
mutual
def cmpV : V → V → Int
 | .mk k n s l, .mk k' n' s' l' =>
  if k ≠ k' then sgn k k'
  else if k = 3 then cmpB s s'
  else if k = 4 then vcmpS s s'
  else if k = 5 then cmpVs l l'
  else if k = 6 then (if vcmpS s s' ≠ 0 then vcmpS s s' else cmpVs l l')
  else sgn n n'
def cmpVs : List V → List V → Int
 | [], [] => 0
 | [], _ :: _ => -1
 | _ :: _, [] => 1
 | v :: l, w :: m => if cmpV v w ≠ 0 then cmpV v w else cmpVs l m
end
def lastB (a b : Bool) : Int := if a = b then 0 else if a then -1 else 1
def mayR (l : List V) : Bool := l.all mayV
def cmpR (l m : List V) : Int := if mayR l = true ∧ mayR m = true then cmpVs l m else lastB (mayR l) (mayR m)
mutual
def sameV : V → V → Bool
 | .mk k n s l, .mk k' n' s' l' => k == k' && n == n' && decide (s = s') && sameVs l l'
def sameVs : List V → List V → Bool
 | [], [] => true
 | v :: l, w :: m => sameV v w && sameVs l m
 | _, _ => false
end
theorem QjL (h : ∀ v w : V, sameV v w = true → v = w) : ∀ {l m : List V}, sameVs l m = true → l = m
 | [], [], _ => rfl
 | [], _ :: _, h' => by simp [sameVs] at h'
 | _ :: _, [], h' => by simp [sameVs] at h'
 | v :: l, w :: m, h' => by
  simp only [sameVs, Bool.and_eq_true] at h'
  rw [h v w h'.1, QjL h h'.2]
theorem Qkx {v w : V} (h : sameV v w = true) : v = w := by
 have key : ∀ v : V, ∀ w, sameV v w = true → v = w := by
  refine V.rec_ (P := fun v => ∀ w, sameV v w = true → v = w) fun v ih w h => ?_
  obtain ⟨k, n, s, l⟩ := v
  obtain ⟨k', n', s', l'⟩ := w
  simp only [sameV, Bool.and_eq_true, beq_iff_eq, decide_eq_true_eq] at h
  obtain ⟨⟨⟨rfl, rfl⟩, rfl⟩, h⟩ := h
  have : ∀ (l m : List V), (∀ v ∈ l, ∀ w, sameV v w = true → v = w) → sameVs l m = true → l = m := by
   intro l
   induction l with
   | nil => intro m _ h; cases m with
    | nil => rfl
    | cons _ _ => simp [sameVs] at h
   | cons v l ihl =>
    intro m hh h
    cases m with
    | nil => simp [sameVs] at h
    | cons w m =>
     simp only [sameVs, Bool.and_eq_true] at h
     rw [hh v (List.mem_cons_self ..) w h.1, ihl m (fun v hv => hh v (List.mem_cons_of_mem _ hv)) h.2]
  rw [this l l' ih h]
 exact key v w h
mutual
theorem Qik : ∀ v : V, sameV v v = true
 | .mk k n s l => by simp [sameV, Qfg l]
theorem Qfg : ∀ l : List V, sameVs l l = true
 | [] => rfl
 | v :: l => by simp [sameVs, Qik v, Qfg l]
end
theorem QlG {v w : V} : sameV v w = true ↔ v = w := ⟨Qkx, fun h => h ▸ Qik v⟩
theorem QbG {l m : List V} : sameVs l m = true ↔ l = m := ⟨QjL fun _ _ => Qkx, fun h => h ▸ Qfg l⟩
end Sx
end

noncomputable section
set_option linter.unusedVariables false
set_option linter.unusedSimpArgs false
set_option maxRecDepth 10000
namespace Sx
section
open Go Go.Proofs
theorem Qez {α β : Type} (f : α → List β) (z : Nat) (hz : ∀ x, (f x).length = z) : ∀ (l : List α) (i : Nat) (x : α), l[i]? = some x → ∀ (j : Nat) (v : β), (f x)[j]? = some v → (l.flatMap f)[i * z + j]? = some v
 | [], i, x, h, j, v, hv => by simp at h
 | y :: l, 0, x, h, j, v, hv => by
  simp at h; subst h
  rw [List.flatMap_cons, Nat.zero_mul, Nat.zero_add, List.getElem?_append_left (List.getElem?_eq_some_iff.1 hv).1]; exact hv
 | y :: l, i + 1, x, h, j, v, hv => by
  have := Qez f z hz l i x (by simpa using h) j v hv
  rw [List.flatMap_cons, List.getElem?_append_right (by rw [hz, Nat.add_mul]; omega), hz]
  rw [show (i + 1) * z + j - z = i * z + j by rw [Nat.add_mul]; omega]; exact this
abbrev TV := Qa
theorem TV.c_len (x : TV) : (Qa.c x).length = 4 := rfl
mutual
def VIs (H : Heap) : V → TV → Prop
 | .mk k n s l, x => x.Kind = k ∧ x.N = n ∧ x.S = s ∧ ∃ xs : List TV, rdsl H x.L (xs.flatMap Qa.c) ∧ x.L.len = xs.length ∧ VsAre H l xs
def VsAre (H : Heap) : List V → List TV → Prop
 | [], [] => True
 | v :: l, x :: xs => VIs H v x ∧ VsAre H l xs
 | [], _ :: _ => False
 | _ :: _, [] => False
end
/-- a row of values -/
def VRow (H : Heap) (t : Sl) (l : List V) : Prop := ∃ xs : List TV, rdsl H t (xs.flatMap Qa.c) ∧ t.len = xs.length ∧ VsAre H l xs
theorem Qds {H : Heap} {v : V} {x : TV} : VIs H v x ↔ x.Kind = v.k ∧ x.N = v.n ∧ x.S = v.s ∧ VRow H x.L v.l := by obtain ⟨k, n, s, l⟩ := v; rfl
theorem VsAre.len {H : Heap} : ∀ {l : List V} {xs : List TV}, VsAre H l xs → l.length = xs.length
 | [], [], _ => rfl
 | v :: l, x :: xs, h => by have := VsAre.len h.2; simp [this]
theorem VsAre.get {H : Heap} : ∀ {l : List V} {xs : List TV}, VsAre H l xs → ∀ (i : Nat) (v : V) (x : TV), l[i]? = some v → xs[i]? = some x → VIs H v x
 | [], [], _, i, v, x, h, _ => by simp at h
 | v :: l, x :: xs, h, 0, v', x', h1, h2 => by simp at h1 h2; subst h1; subst h2; exact h.1
 | v :: l, x :: xs, h, i + 1, v', x', h1, h2 => VsAre.get h.2 i v' x' (by simpa using h1) (by simpa using h2)
theorem VsAre.of {H : Heap} : ∀ {l : List V} {xs : List TV}, l.length = xs.length → (∀ (i : Nat) (v : V) (x : TV), l[i]? = some v → xs[i]? = some x → VIs H v x) → VsAre H l xs
 | [], [], _, _ => trivial
 | v :: l, x :: xs, h, hg => ⟨hg 0 v x rfl rfl, VsAre.of (by simpa using h) fun i v' x' h1 h2 => hg (i + 1) v' x' (by simpa using h1) (by simpa using h2)⟩
mutual
theorem VIs.le {A B : Heap} (h : A.le B) : ∀ {v : V} {x : TV}, VIs A v x → VIs B v x
 | .mk k n s l, x, ⟨h1, h2, h3, xs, h4, h5, h6⟩ => ⟨h1, h2, h3, xs, QaY h h4, h5, VsAre.le h h6⟩
theorem VsAre.le {A B : Heap} (h : A.le B) : ∀ {l : List V} {xs : List TV}, VsAre A l xs → VsAre B l xs
 | [], [], _ => trivial
 | v :: l, x :: xs, ⟨h1, h2⟩ => ⟨VIs.le h h1, VsAre.le h h2⟩
end
theorem VRow.le {A B : Heap} {t : Sl} {l : List V} (h : VRow A t l) (hle : A.le B) : VRow B t l := by
 obtain ⟨xs, h1, h2, h3⟩ := h
 exact ⟨xs, QaY hle h1, h2, h3.le hle⟩
theorem VRow.len {H : Heap} {t : Sl} {l : List V} (h : VRow H t l) : t.len = l.length := by
 obtain ⟨xs, h1, h2, h3⟩ := h
 rw [h2, h3.len]
theorem VIs.kind {H : Heap} {v : V} {x : TV} (h : VIs H v x) : x.Kind = v.k := (Qds.1 h).1
theorem VIs.num {H : Heap} {v : V} {x : TV} (h : VIs H v x) : x.N = v.n := (Qds.1 h).2.1
theorem VIs.txt {H : Heap} {v : V} {x : TV} (h : VIs H v x) : x.S = v.s := (Qds.1 h).2.2.1
theorem VIs.row {H : Heap} {v : V} {x : TV} (h : VIs H v x) : VRow H x.L v.l := (Qds.1 h).2.2.2
/-- one of a row's values -/
theorem VRow.ld {A H : Heap} {t : Sl} {l : List V} (h : VRow A t l) (hle : A.le H) {i : Nat} {x : Int} {K : TV → Prop} (hx : x = i) (hi : i < l.length) (k : ∀ y, VIs A l[i] y → K y) : ixa t x fun p => ldT H Qa.c (p.1, p.2 + x.toNat * 4) K := by
 have hl := h.len
 obtain ⟨xs, h1, h2, h3⟩ := h
 have hi2 : i < xs.length := by omega
 have hg := List.getElem?_eq_getElem hi2
 subst hx
 refine Qic (QaY hle h1) (by omega) (by omega) (fun e => ?_) fun p _ hp => ⟨xs[i], ?_, k _ (h3.get i _ _ (List.getElem?_eq_getElem hi) hg)⟩
 ·have := Qez Qa.c 4 TV.c_len xs i _ hg 0 _ rfl
  rw [e] at this; simp at this
 ·refine QfS fun j v hj => ?_
  have := Qci hp _ _ (Qez Qa.c 4 TV.c_len xs i _ hg j v hj)
  rw [show p.2 + (i : Int).toNat * 4 + j = p.2 + (i * 4 + j) by omega]; exact this
mutual
def VB : V → Prop
 | .mk k n s l => (0 ≤ k ∧ k ≤ 255) ∧ (-9223372036854775808 ≤ n ∧ n ≤ 9223372036854775807) ∧ s.length ≤ 140737488355328 ∧ l.length ≤ 140737488355328 ∧ VBs l
def VBs : List V → Prop
 | [] => True
 | v :: l => VB v ∧ VBs l
end
theorem VBs.mem : ∀ {l : List V}, VBs l → ∀ {v}, v ∈ l → VB v
 | w :: l, h, v, hv => by
  rcases List.mem_cons.1 hv with rfl | hv
  ·exact h.1
  ·exact VBs.mem h.2 hv
theorem VBs.of : ∀ {l : List V}, (∀ v ∈ l, VB v) → VBs l
 | [], _ => trivial
 | v :: l, h => ⟨h v (List.mem_cons_self ..), VBs.of fun w hw => h w (List.mem_cons_of_mem _ hw)⟩
theorem VB.k {v : V} (h : VB v) : 0 ≤ v.k ∧ v.k ≤ 255 := by obtain ⟨k, n, s, l⟩ := v; exact h.1
theorem VB.n {v : V} (h : VB v) : -9223372036854775808 ≤ v.n ∧ v.n ≤ 9223372036854775807 := by obtain ⟨k, n, s, l⟩ := v; exact h.2.1
theorem VB.s {v : V} (h : VB v) : v.s.length ≤ 140737488355328 := by obtain ⟨k, n, s, l⟩ := v; exact h.2.2.1
theorem VB.l {v : V} (h : VB v) : v.l.length ≤ 140737488355328 := by obtain ⟨k, n, s, l⟩ := v; exact h.2.2.2.1
theorem VB.ls {v : V} (h : VB v) : VBs v.l := by obtain ⟨k, n, s, l⟩ := v; exact h.2.2.2.2
theorem VB.at {v : V} (h : VB v) {i : Nat} (hi : i < v.l.length) : VB v.l[i] := h.ls.mem (List.getElem_mem hi)
section
variable {B : Heap} {b : Nat} {m : Bool} {x : TV}
theorem Qks (h : B b = some (m, .row (Qa.c x))) : rd B (b, 0) = some (.int .u8 x.Kind) ∧ rd B (b, 1) = some (.int .i64 x.N) ∧ rd B (b, 2) = some (sv x.S) ∧ rd B (b, 3) = some (slv x.L) :=
 ⟨by rw [Q7 h]; rfl, by rw [Q7 h]; rfl, by rw [Q7 h]; rfl, by rw [Q7 h]; rfl⟩
theorem bxK {K : Int → Prop} (h : B b = some (m, .row (Qa.c x))) (k : K x.Kind) : ldI B .u8 ((b, 0).1, (b, 0).2 + 0) K := ⟨_, (Qks h).1, k⟩
theorem bxN {K : Int → Prop} (h : B b = some (m, .row (Qa.c x))) (k : K x.N) : ldI B .i64 ((b, 0).1, (b, 0).2 + 1) K := ⟨_, (Qks h).2.1, k⟩
theorem bxS {K : Str → Prop} (h : B b = some (m, .row (Qa.c x))) (k : K x.S) : ldS B ((b, 0).1, (b, 0).2 + 2) K := ⟨_, (Qks h).2.2.1, k⟩
theorem bxL {K : Sl → Prop} (h : B b = some (m, .row (Qa.c x))) (k : K x.L) : ldL B ((b, 0).1, (b, 0).2 + 3) K := ⟨_, (Qks h).2.2.2, k⟩
theorem bxV {K : TV → Prop} (h : B b = some (m, .row (Qa.c x))) (k : K x) : ldT B Qa.c (b, 0) K := ⟨x, QdR h fun j v hj => by simpa using hj, k⟩
end
section
variable {C : Ctx} {H : Heap}
theorem Qh5 {v : V} {x : TV} {H : Heap} {K : Int → Heap → Prop} (hv : VIs H v x) (hB : VB v) (hs : vsize v ≤ 4611686018427387904) (k : K (dep v) H) : QP C x K H := by
 refine V.rec_ (P := fun v => ∀ {x H} {K : Int → Heap → Prop}, VIs H v x → VB v → vsize v ≤ 4611686018427387904 → K (dep v) H → QP C x K H) (fun v ih => ?_) v hv hB hs k
 clear hv hB hs k
 intro x H K hv hB hs k
 apply QP.gh
 apply QhS
 unfold QeY
 intro b1 n1
 have hr := hv.row
 have hl := hr.len
 have hbl := hB.l
 have hds := QjW v
 have hde := QmL v
 refine ⟨fun y H' => ∃ i : Nat, y = ((deps (v.l.take i) : Int), (i : Int)) ∧ i ≤ v.l.length ∧ (H.put b1 (.row (Qa.c x))).le H', fun y _ => v.l.length - y.2.toNat, ⟨0, by simp [deps], Nat.zero_le _, Heap.le.refl _⟩, ?_⟩
 rintro _ H' ⟨i, rfl, hi, hle⟩
 have hb := hle _ _ (Heap.put_same ..)
 have hle0 := (Heap.le_put n1).trans hle
 refine bxL hb ?_
 rw [hl]
 refine ift.of (fun h => ?_) (fun h => ?_)
 ·have hlt : i < v.l.length := by have := of_decide_eq_true h; dsimp only at this; omega
  have hmem := List.getElem_mem hlt
  have hsz := Qjc hmem
  have hdl := QjX hmem
  refine bxL hb ?_
  refine hr.ld hle0 rfl hlt fun y hy => ?_
  refine ih _ hmem (hy.le hle0) (hB.at hlt) (by omega) ?_
  have hdt := Qjr hlt
  dsimp only
  rw [Qm (by omega) (by omega)]
  refine ⟨⟨i + 1, ?_, by omega, hle⟩, by first | omega | (dsimp only; omega)⟩
  rw [hdt]
  refine Prod.ext ?_ rfl
  dsimp only
  split <;> omega
 ·have hie : i = v.l.length := by have := of_decide_eq_false h; dsimp only at this; omega
  subst hie
  dsimp only
  rw [List.take_length, Qm (by omega) (by omega)]
  refine ⟨H, Gh.le hle0, ?_⟩
  rw [hde] at k; exact k
theorem Qh7 {v : V} {x : TV} {H : Heap} {m : Nat} {K : Int → Heap → Prop} (hv : VIs H v x) (hB : VB v) (hm : m ≤ 1000) (k : ∀ r : Nat, r ≤ m + 1 → r ≤ dep v → (r = dep v ∨ m + 1 ≤ r) → K r H) : QR C x m K H := by
 refine V.rec_ (P := fun v => ∀ {x H} {m : Nat} {K : Int → Heap → Prop}, VIs H v x → VB v → m ≤ 1000 → (∀ r : Nat, r ≤ m + 1 → r ≤ dep v → (r = dep v ∨ m + 1 ≤ r) → K r H) → QR C x m K H) (fun v ih => ?_) v hv hB hm k
 clear hv hB hm k m
 intro x H m K hv hB hm k
 apply QR.gh
 apply QhX
 unfold Qe3
 intro b1 n1
 have hr := hv.row
 have hl := hr.len
 have hbl := hB.l
 have hde := QmL v
 have hb1 : (H.put b1 (.row (Qa.c x))) b1 = some (true, .row (Qa.c x)) := Heap.put_same ..
 refine ⟨fun y H' => H.le H' ∧ ∃ r : Nat, y = (r : Int) ∧ r ≤ m ∧ r ≤ deps v.l ∧ (r = deps v.l ∨ m ≤ r), ?_, ?_⟩
 rotate_left
 ·rintro y H' ⟨hle, r, rfl, h0, h1, h2⟩
  rw [Qm (by omega) (by omega)]
  have := k (r + 1) (by omega) (by omega) (by omega)
  exact ⟨H, Gh.le hle, by simpa using this⟩
 refine bxL hb1 ?_
 refine ⟨fun y H' => ∃ i r : Nat, y = ((r : Int), (i : Int)) ∧ i ≤ v.l.length ∧ H.le H' ∧ r ≤ m ∧ r ≤ deps (v.l.take i) ∧ (r = deps (v.l.take i) ∨ m ≤ r), fun y _ => v.l.length - y.2.toNat, ⟨0, 0, rfl, Nat.zero_le _, Heap.le_put n1, Nat.zero_le _, Nat.zero_le _, .inl (by simp [deps])⟩, ?_⟩
 rintro _ H' ⟨i, r, rfl, hi, hle, hr0, hr1, hr2⟩
 have hdti : deps (v.l.take i) ≤ deps v.l := by
  have h1 := Qfa (v.l.take i) (v.l.drop i)
  rw [List.take_append_drop] at h1; omega
 dsimp only
 rw [hl]
 refine ift.of (fun h => ?_) (fun h => ?_)
 ·have hlt : i < v.l.length := by have := of_decide_eq_true h; omega
  have hmem := List.getElem_mem hlt
  have hdl := QjX hmem
  refine hr.ld hle rfl hlt fun y hy => ?_
  intro b20 n20
  refine ⟨_, Heap.put_same .., by simp [Qa.c], ?_⟩
  rw [Heap.put_put]
  have esp : splice (Qa.c Qa.zero) (b20, 0).2 (Qa.c y) = Qa.c y := rfl
  rw [esp]
  have hle2 := hle.trans (Heap.le_put n20 (g := .row (Qa.c y)) (m := true))
  refine ift.of (fun h => ?_) (fun h => ?_)
  ·have hge : m ≤ r := by have := of_decide_eq_true h; omega
   exact ⟨hle2, r, rfl, by omega, by omega, .inr hge⟩
  ·have hltm : r < m := by have := of_decide_eq_false h; omega
   refine bxV (Heap.put_same ..) ?_
   have em : w .i64 ((m : Int) - 1) = ((m - 1 : Nat) : Int) := by rw [Qm (by omega) (by omega)]; omega
   rw [em]
   refine ih _ hmem (hy.le hle2) (hB.at hlt) (by omega) fun q hq0 hq1 hq2 => ?_
   have hdt := Qjr hlt
   rw [Qm (by omega) (by omega)]
   refine ⟨⟨i + 1, max q r, ?_, by omega, hle2, by omega, by omega, ?_⟩, by first | omega | (dsimp only; omega)⟩
   ·refine Prod.ext ?_ rfl
    dsimp only
    split <;> omega
   ·rw [hdt]; omega
 ·have hie : i = v.l.length := by have := of_decide_eq_false h; omega
  subst hie
  rw [List.take_length] at hr1 hr2
  exact ⟨hle, r, rfl, hr0, hr1, hr2⟩
end
end
section
open Go Go.Proofs
theorem u8eq (c : UInt8) (n : Nat) (hn : n < 256) : ((c.toNat : Int) == (n : Int)) = decide (c = UInt8.ofNat n) := by
 rw [Bool.eq_iff_iff]; simp only [decide_eq_true_eq, beq_iff_eq]
 constructor
 ·intro h; exact UInt8.toNat_inj.1 (by rw [UInt8.toNat_ofNat']; omega)
 ·rintro rfl; rw [UInt8.toNat_ofNat']; omega
theorem e48 (c : UInt8) : ((c.toNat : Int) == 48) = decide (c = 48) := u8eq c 48 (by omega)
theorem e45 (c : UInt8) : ((c.toNat : Int) == 45) = decide (c = 45) := u8eq c 45 (by omega)
theorem e46 (c : UInt8) : ((c.toNat : Int) == 46) = decide (c = 46) := u8eq c 46 (by omega)
theorem QgS {α : Type} {p : α → Bool} {s : List α} {i : Nat} (h : i < s.length) : (s.take (i + 1)).all p = ((s.take i).all p && p s[i]) := by
 rw [List.take_add_one, List.getElem?_eq_getElem h, Option.toList_some, List.all_append]; simp
theorem QkW {α : Type} {p : α → Bool} {s : List α} {x : α} (h : x ∈ s) (hp : p x = false) : s.all p = false := by
 rw [List.all_eq_false]; exact ⟨x, h, by simp [hp]⟩
theorem getE {s : Str} {i : Nat} (h : i < s.length) : s[((i : Nat) : Int).toNat]? = some s[i] := by simp [h]
theorem getL {s : Str} (h : 0 < s.length) {x : Int} (hx : x = (s.length : Int) - 1) : s[x.toNat]? = some (s.getLast (List.ne_nil_of_length_pos h)) := by
 subst hx
 have : ((s.length : Int) - 1).toNat = s.length - 1 := by omega
 rw [this, List.getElem?_eq_getElem (by omega), List.getLast_eq_getElem]
section
variable {C : Ctx} {H : Heap}
theorem Qjt {c : UInt8} {K : Bool → Heap → Prop} (k : K (lowC c) H) : QbH C (c.toNat : Int) K H := by
 apply Qg6
 unfold Qer
 have : (decide ((c.toNat : Int) ≥ 97) && decide ((c.toNat : Int) ≤ 122)) = lowC c := by
  unfold lowC
  rw [Bool.eq_iff_iff]; simp only [Bool.and_eq_true, decide_eq_true_eq]; omega
 rw [this]; exact k
theorem QdS {s : Str} {K : Bool → Heap → Prop} (hs : s.length ≤ 140737488355328) (k : K (nameS s) H) : QbL C s K H := by
 apply Qiu
 unfold QfW
 refine ⟨fun b H' => H = H' ∧ b = (s.isEmpty || decide (s.length > 32) || !lowC (s.headD 0)), ?_, ?_⟩
 ·refine ift.of (fun h => ⟨rfl, ?_⟩) (fun h => ?_)
  ·simp only [Bool.or_eq_true, decide_eq_true_eq, beq_iff_eq] at h
   rcases h with rfl | h
   ·rfl
   ·have : decide (s.length > 32) = true := by rw [decide_eq_true_eq]; omega
    rw [this]; simp
  ·cases s with
   | nil => simp at h
   | cons c t =>
    refine ⟨c, by omega, rfl, ?_⟩
    refine Qjt ⟨rfl, ?_⟩
    simp only [Bool.or_eq_false_iff, decide_eq_false_iff_not] at h
    have : decide ((c :: t).length > 32) = false := by rw [decide_eq_false_iff_not]; omega
    rw [this]; rfl
 rintro b _ ⟨rfl, rfl⟩
 refine ift.of (fun h => ?_) (fun h => ?_)
 ·have : nameS s = false := by
   unfold nameS
   simp only [Bool.or_eq_true, decide_eq_true_eq, Bool.not_eq_true'] at h
   rcases h with (h | h) | h
   ·rw [h]; rfl
   ·have : decide (s.length ≤ 32) = false := by rw [decide_eq_false_iff_not]; omega
    rw [this]; simp
   ·rw [h]; simp
  rw [this] at k; exact k
 have hn : nameS s = s.all nameC := by
  unfold nameS
  simp only [Bool.or_eq_false_iff, decide_eq_false_iff_not, Bool.not_eq_false'] at h
  have : decide (s.length ≤ 32) = true := by rw [decide_eq_true_eq]; omega
  rw [h.1.1, this, h.2]; simp
 refine ⟨fun x H' => ∃ i : Nat, x = (i : Int) ∧ i ≤ s.length ∧ H = H' ∧ (s.take i).all nameC = true, fun x _ => s.length - x.toNat, ⟨0, rfl, Nat.zero_le _, rfl, rfl⟩, ?_⟩
 rintro x _ ⟨i, rfl, hi, rfl, ha⟩
 refine ift.of (fun h => ?_) (fun h => ?_)
 ·have hlt : i < s.length := by have := of_decide_eq_true h; omega
  refine ⟨s[i], by omega, getE hlt, ?_⟩
  dsimp only
  have hm := List.getElem_mem hlt
  have hat := QgS (p := nameC) hlt
  generalize s[i] = c at *
  refine Qjt ?_
  have e : ((((!lowC c) && (!((decide ((c.toNat : Int) ≥ 65)) && (decide ((c.toNat : Int) ≤ 90))))) && (!((decide ((c.toNat : Int) ≥ 48)) && (decide ((c.toNat : Int) ≤ 57))))) && ((c.toNat : Int) != 95)) = !nameC c := by
   unfold nameC
   have h1 : decide ((c.toNat : Int) ≥ 65) = decide (65 ≤ c.toNat) := by rw [decide_eq_decide]; omega
   have h2 : decide ((c.toNat : Int) ≤ 90) = decide (c.toNat ≤ 90) := by rw [decide_eq_decide]; omega
   have h3 : decide ((c.toNat : Int) ≥ 48) = decide (48 ≤ c.toNat) := by rw [decide_eq_decide]; omega
   have h4 : decide ((c.toNat : Int) ≤ 57) = decide (c.toNat ≤ 57) := by rw [decide_eq_decide]; omega
   have h5 : ((c.toNat : Int) != 95) = !decide (c.toNat = 95) := by
    rw [Bool.eq_iff_iff]; simp only [bne_iff_ne, ne_eq, Bool.not_eq_true', decide_eq_false_iff_not]; omega
   rw [h1, h2, h3, h4, h5]; simp only [Bool.not_or]
  rw [e]
  refine ift.of (fun h => ?_) (fun h => ?_)
  ·rw [hn, QkW hm (by simpa using h)] at k; exact k
  ·rw [Qm (by omega) (by omega)]
   refine ⟨⟨i + 1, by omega, by omega, rfl, ?_⟩, by first | omega | (dsimp only; omega)⟩
   rw [hat, ha]; simpa using h
 ·have hie : i = s.length := by have := of_decide_eq_false h; omega
  rw [hie, List.take_length] at ha
  rw [hn, ha] at k; exact k
theorem Qf8 {s : Str} {K : Bool → Heap → Prop} (hs : s.length ≤ 140737488355328) (k : K (nameS s) H) : Qbd C s K H := by
 apply QiD
 unfold Qf5
 refine ⟨fun b H' => H = H' ∧ b = (s.isEmpty || decide (s.length > 32) || decide ((s.headD 0).toNat < 97)), ?_, ?_⟩
 ·refine ift.of (fun h => ⟨rfl, ?_⟩) (fun h => ?_)
  ·simp only [Bool.or_eq_true, decide_eq_true_eq, beq_iff_eq] at h
   rcases h with rfl | h
   ·rfl
   ·have : decide (s.length > 32) = true := by rw [decide_eq_true_eq]; omega
    rw [this]; simp
  ·cases s with
   | nil => simp at h
   | cons c t =>
    refine ⟨c, by omega, rfl, rfl, ?_⟩
    simp only [Bool.or_eq_false_iff, decide_eq_false_iff_not] at h
    have : decide ((c :: t).length > 32) = false := by rw [decide_eq_false_iff_not]; omega
    rw [this]
    simp only [List.isEmpty_cons, Bool.false_or, List.headD_cons]
    exact (decide_eq_decide.2 (by omega) : decide ((c.toNat : Int) < 97) = decide (c.toNat < 97))
 rintro b _ ⟨rfl, rfl⟩
 refine ⟨fun b H' => H = H' ∧ b = (s.isEmpty || decide (s.length > 32) || !lowC (s.headD 0)), ?_, ?_⟩
 ·refine ift.of (fun h => ⟨rfl, ?_⟩) (fun h => ?_)
  ·simp only [Bool.or_eq_true, decide_eq_true_eq] at h
   rcases h with (h | h) | h
   ·rw [h]; rfl
   ·have : decide (s.length > 32) = true := by rw [decide_eq_true_eq]; omega
    rw [this]; simp
   ·have : lowC (s.headD 0) = false := by unfold lowC; rw [decide_eq_false (by omega)]; rfl
    rw [this]; simp
  ·simp only [Bool.or_eq_false_iff, decide_eq_false_iff_not] at h
   cases s with
   | nil => simp at h
   | cons c t =>
    refine ⟨c, by omega, rfl, rfl, ?_⟩
    have : decide ((c :: t).length > 32) = false := by rw [decide_eq_false_iff_not]; omega
    rw [this]
    simp only [List.isEmpty_cons, Bool.false_or, List.headD_cons] at h ⊢
    unfold lowC
    rw [decide_eq_true (by omega : 97 ≤ c.toNat), Bool.true_and, ← decide_not, decide_eq_decide]; omega
 rintro b _ ⟨rfl, rfl⟩
 refine ift.of (fun h => ?_) (fun h => ?_)
 ·have : nameS s = false := by
   unfold nameS
   simp only [Bool.or_eq_true, decide_eq_true_eq, Bool.not_eq_true'] at h
   rcases h with (h | h) | h
   ·rw [h]; rfl
   ·have : decide (s.length ≤ 32) = false := by rw [decide_eq_false_iff_not]; omega
    rw [this]; simp
   ·rw [h]; simp
  rw [this] at k; exact k
 have hn : nameS s = s.all nameC := by
  unfold nameS
  simp only [Bool.or_eq_false_iff, decide_eq_false_iff_not, Bool.not_eq_false'] at h
  have : decide (s.length ≤ 32) = true := by rw [decide_eq_true_eq]; omega
  rw [h.1.1, this, h.2]; simp
 refine ⟨fun x H' => ∃ i : Nat, x = (i : Int) ∧ i ≤ s.length ∧ H = H' ∧ (s.take i).all nameC = true, fun x _ => s.length - x.toNat, ⟨0, rfl, Nat.zero_le _, rfl, rfl⟩, ?_⟩
 rintro x _ ⟨i, rfl, hi, rfl, ha⟩
 refine ift.of (fun h => ?_) (fun h => ?_)
 ·have hlt : i < s.length := by have := of_decide_eq_true h; omega
  refine ⟨s[i], by omega, getE hlt, ?_⟩
  dsimp only
  have hm := List.getElem_mem hlt
  have hat := QgS (p := nameC) hlt
  generalize s[i] = c at *
  have e : (!(((((decide ((c.toNat : Int) ≥ 97)) && (decide ((c.toNat : Int) ≤ 122))) || ((decide ((c.toNat : Int) ≥ 65)) && (decide ((c.toNat : Int) ≤ 90)))) || ((decide ((c.toNat : Int) ≥ 48)) && (decide ((c.toNat : Int) ≤ 57)))) || ((c.toNat : Int) == 95))) = !nameC c := by
   unfold nameC lowC
   have h0 : decide ((c.toNat : Int) ≥ 97) = decide (97 ≤ c.toNat) := by rw [decide_eq_decide]; omega
   have h01 : decide ((c.toNat : Int) ≤ 122) = decide (c.toNat ≤ 122) := by rw [decide_eq_decide]; omega
   have h1 : decide ((c.toNat : Int) ≥ 65) = decide (65 ≤ c.toNat) := by rw [decide_eq_decide]; omega
   have h2 : decide ((c.toNat : Int) ≤ 90) = decide (c.toNat ≤ 90) := by rw [decide_eq_decide]; omega
   have h3 : decide ((c.toNat : Int) ≥ 48) = decide (48 ≤ c.toNat) := by rw [decide_eq_decide]; omega
   have h4 : decide ((c.toNat : Int) ≤ 57) = decide (c.toNat ≤ 57) := by rw [decide_eq_decide]; omega
   have h5 : ((c.toNat : Int) == 95) = decide (c.toNat = 95) := by
    rw [Bool.eq_iff_iff]; simp only [beq_iff_eq, decide_eq_true_eq]; omega
   rw [h0, h01, h1, h2, h3, h4, h5]
  rw [e]
  refine ift.of (fun h => ?_) (fun h => ?_)
  ·rw [hn, QkW hm (by simpa using h)] at k; exact k
  ·rw [Qm (by omega) (by omega)]
   refine ⟨⟨i + 1, by omega, by omega, rfl, ?_⟩, by first | omega | (dsimp only; omega)⟩
   rw [hat, ha]; simpa using h
 ·have hie : i = s.length := by have := of_decide_eq_false h; omega
  rw [hie, List.take_length] at ha
  rw [hn, ha] at k; exact k
theorem Qnq {s : Str} {i : Nat} (h : i < s.length) (h1 : (46 : UInt8) ∉ s.take i) (h2 : s[i] ≠ 46) : (46 : UInt8) ∉ s.take (i + 1) := by
 rw [List.take_add_one, List.getElem?_eq_getElem h, Option.toList_some, List.mem_append]
 rintro (hh | hh)
 ·exact h1 hh
 ·exact h2 (List.mem_singleton.1 hh).symm
theorem QmB {s : Str} {i : Nat} (h : i < s.length) : s = s.take i ++ s[i] :: s.drop (i + 1) := by
 rw [← List.drop_eq_getElem_cons h, List.take_append_drop]
theorem Qh6 {s : Str} {K : Bool → Heap → Prop} (hs : s.length ≤ 140737488355328) (k : K (namesS s) H) : QdB C s K H := by
 apply QhT
 unfold QeZ
 unfold namesS at k
 refine ift.of (fun h => ?_) (fun h => ?_)
 ·simp only [Bool.or_eq_true, beq_iff_eq] at h
  rw [if_pos (show s = trueS ∨ s = falseS from h)] at k; exact k
 simp only [Bool.or_eq_false_iff, beq_eq_false_iff_ne, ne_eq] at h
 rw [if_neg (show ¬ (s = trueS ∨ s = falseS) from fun hh => hh.elim h.1 h.2)] at k
 refine ⟨fun x H' => ∃ i : Nat, x = (i : Int) ∧ i ≤ s.length ∧ H = H' ∧ (46 : UInt8) ∉ s.take i, fun x _ => s.length - x.toNat, ⟨0, rfl, Nat.zero_le _, rfl, by simp⟩, ?_⟩
 rintro x _ ⟨i, rfl, hi, rfl, hno⟩
 refine ift.of (fun h => ?_) (fun h => ?_)
 ·have hlt : i < s.length := by have := of_decide_eq_true h; omega
  refine ⟨s[i], by omega, getE hlt, ?_⟩
  dsimp only
  rw [e46]
  refine ift.of (fun h => ?_) (fun h => ?_)
  ·have hc : s[i] = 46 := of_decide_eq_true h
   have hsp := QmB hlt
   rw [hc] at hsp
   have hcut := QiG (s.take i) (s.drop (i + 1)) hno
   rw [← hsp] at hcut
   rw [hcut] at k
   dsimp only at k
   refine ⟨by omega, by omega, by omega, _, rfl, ?_⟩
   have e1 : (s.take ((i : Int)).toNat).drop (0 : Int).toNat = s.take i := by simp
   rw [e1]
   refine QdS (by simp; omega) ?_
   refine ⟨fun b H' => H = H' ∧ b = (nameS (s.take i) && nameS (s.drop (i + 1))), ?_, ?_⟩
   ·refine ift.of (fun h => ?_) (fun h => ⟨rfl, by rw [h]; rfl⟩)
    rw [Qm (by omega) (by omega)]
    refine ⟨by omega, by omega, by omega, _, rfl, ?_⟩
    have e2 : (s.take ((s.length : Int)).toNat).drop ((i : Int) + 1).toNat = s.drop (i + 1) := by
     have : ((i : Int) + 1).toNat = i + 1 := by omega
     rw [this]; simp
    rw [e2]
    exact QdS (by simp; omega) ⟨rfl, by rw [h]; rfl⟩
   ·rintro b _ ⟨rfl, rfl⟩
    exact k
  ·have hc : s[i] ≠ 46 := of_decide_eq_false h
   rw [Qm (by omega) (by omega)]
   exact ⟨⟨i + 1, by omega, by omega, rfl, Qnq hlt hno hc⟩, by first | omega | (dsimp only; omega)⟩
 ·have hie : i = s.length := by have := of_decide_eq_false h; omega
  rw [hie, List.take_length] at hno
  rw [QiH s hno] at k
  exact QdS hs k
def numT (t : Str) : Bool := !t.isEmpty && !(decide (t.length > 1) && decide (t.head? = some 48)) && t.all digC
theorem Qko {c : UInt8} {t : Str} : numS (45 :: c :: t) = if c = 48 then false else numT (c :: t) := by
 unfold numS numT unmin
 by_cases h : c = 48
 ·subst h; simp
 ·simp [h]
theorem Qnf {s : Str} (h : ¬ (s.length > 1 ∧ s.head? = some 45)) : numS s = numT s := by
 unfold numS numT unmin
 cases s with
 | nil => rfl
 | cons c t =>
  by_cases hc : c = 45
  ·subst hc
   have : t = [] := by cases t with
    | nil => rfl
    | cons d u => exact absurd ⟨by simp, rfl⟩ h
   subst this; decide
  ·simp only [List.head?_cons, Option.some.injEq, hc, if_false]
   by_cases h8 : c = 48
   ·subst h8
    cases t with
    | nil => decide
    | cons d u => simp
   ·simp [h8]
theorem QhC {s : Str} {K : Bool → Heap → Prop} (hs : s.length ≤ 140737488355328) (k : K (numS s) H) : QcZ C s K H := by
 apply Qg5
 unfold Qeq
 refine ⟨fun x H' => H = H' ∧ x.length ≤ s.length ∧ numT x = numS s, ?_, ?_⟩
 ·refine ⟨fun b H' => H = H' ∧ b = decide (s.length > 1 ∧ s.head? = some 45), ?_, ?_⟩
  ·refine ift.of (fun h => ?_) (fun h => ⟨rfl, ?_⟩)
   ·have h1 : s.length > 1 := by have := of_decide_eq_true h; omega
    cases s with
    | nil => simp at h1
    | cons c t =>
     refine ⟨c, by omega, rfl, rfl, ?_⟩
     rw [e45, decide_eq_decide]
     simp at h1 ⊢
     exact fun _ => h1
   ·have h1 := of_decide_eq_false h
    rw [eq_comm, decide_eq_false_iff_not]; omega
  rintro b _ ⟨rfl, rfl⟩
  refine ift.of (fun h => ?_) (fun h => ?_)
  ·obtain ⟨h1, h2⟩ := of_decide_eq_true h
   cases s with
   | nil => simp at h1
   | cons c0 t0 =>
   obtain rfl : c0 = 45 := by simpa using h2
   cases t0 with
   | nil => simp at h1
   | cons c t =>
   refine ⟨by omega, by simp; omega, by omega, c :: t, ?_, ?_⟩
   ·rw [List.take_of_length_le (by omega)]; rfl
   ·refine ⟨c, by omega, rfl, ?_⟩
    dsimp only
    rw [e48]
    rw [Qko] at k
    refine ift.of (fun h => ?_) (fun h => ?_)
    ·rw [if_pos (of_decide_eq_true h)] at k; exact k
    ·refine ⟨rfl, by simp, ?_⟩
     rw [Qko, if_neg (of_decide_eq_false h)]
  ·exact ⟨rfl, Nat.le_refl _, (Qnf (of_decide_eq_false h)).symm⟩
 rintro x _ ⟨rfl, hxl, hx⟩
 rw [← hx] at k
 clear hx
 refine ⟨fun b H' => H = H' ∧ b = (x.isEmpty || (decide (x.length > 1) && decide (x.head? = some 48))), ?_, ?_⟩
 ·refine ift.of (fun h => ⟨rfl, ?_⟩) (fun h => ?_)
  ·have : x = [] := by simpa using h
   subst this; rfl
  ·refine ⟨fun b H' => H = H' ∧ b = (decide (x.length > 1) && decide (x.head? = some 48)), ?_, ?_⟩
   ·refine ift.of (fun h => ?_) (fun h => ⟨rfl, ?_⟩)
    ·have h1 : x.length > 1 := by have := of_decide_eq_true h; omega
     rw [decide_eq_true h1]
     cases x with
     | nil => simp at h1
     | cons c t => exact ⟨c, by omega, rfl, rfl, by rw [e48]; simp⟩
    ·have h1 := of_decide_eq_false h
     rw [decide_eq_false (by omega)]; rfl
   ·rintro b _ ⟨rfl, rfl⟩
    have : x.isEmpty = false := by cases x with
     | nil => simp at h
     | cons c t => rfl
    rw [this]; exact ⟨rfl, rfl⟩
 rintro b _ ⟨rfl, rfl⟩
 have hnt : numT x = (!(x.isEmpty || (decide (x.length > 1) && decide (x.head? = some 48))) && x.all digC) := by unfold numT; simp [Bool.not_or]
 refine ift.of (fun h => ?_) (fun h => ?_)
 ·rw [hnt, h] at k; exact k
 rw [hnt, h, Bool.not_false, Bool.true_and] at k
 refine ⟨fun y H' => ∃ i : Nat, y = (i : Int) ∧ i ≤ x.length ∧ H = H' ∧ (x.take i).all digC = true, fun y _ => x.length - y.toNat, ⟨0, rfl, Nat.zero_le _, rfl, rfl⟩, ?_⟩
 rintro y _ ⟨i, rfl, hi, rfl, ha⟩
 refine ift.of (fun h => ?_) (fun h => ?_)
 ·have hlt : i < x.length := by have := of_decide_eq_true h; omega
  have hm := List.getElem_mem hlt
  have hat := QgS (p := digC) hlt
  have hge := getE hlt
  generalize x[i] = c at *
  refine ⟨c, by omega, hge, ?_⟩
  refine ⟨fun b H' => H = H' ∧ b = !digC c, ?_, ?_⟩
  ·refine ift.of (fun h => ⟨rfl, ?_⟩) (fun h => ?_)
   ·have h1 := of_decide_eq_true h
    unfold digC; rw [decide_eq_false (by omega)]; rfl
   ·have h1 := of_decide_eq_false h
    refine ⟨c, by omega, hge, rfl, ?_⟩
    unfold digC; rw [decide_eq_true (by omega : 48 ≤ c.toNat), Bool.true_and, ← decide_not, decide_eq_decide]; omega
  rintro b _ ⟨rfl, rfl⟩
  refine ift.of (fun h => ?_) (fun h => ?_)
  ·rw [QkW hm (by simpa using h)] at k; exact k
  ·rw [Qm (by omega) (by omega)]
   refine ⟨⟨i + 1, by omega, by omega, rfl, ?_⟩, by first | omega | (dsimp only; omega)⟩
   rw [hat, ha]; simpa using h
 ·have hie : i = x.length := by have := of_decide_eq_false h; omega
  rw [hie, List.take_length] at ha
  rw [ha] at k; exact k
theorem QhB {s : Str} {K : Int → Heap → Prop} (hs : s.length ≤ 140737488355328) (hn : numS s = true) (k : K (digits s) H) : QcY C s K H := by
 apply Qg4
 unfold Qep
 cases s with
 | nil => simp [numS, unmin] at hn
 | cons c t =>
  refine ⟨c, by omega, rfl, ?_⟩
  dsimp only
  rw [e45]
  unfold digits unmin at k
  refine ift.of (fun h => ?_) (fun h => ?_)
  ·have hc : c = 45 := of_decide_eq_true h
   rw [if_pos (by rw [hc]; rfl)] at k
   simp at hs
   rw [Qm (by simp only [List.length_cons]; omega) (by simp only [List.length_cons]; omega)]
   simpa using k
  ·rw [if_neg (by simpa using of_decide_eq_false h)] at k; exact k
end
end
section
open Go Go.Proofs
theorem Qia (c : UInt8) : ∀ s : Str, (Lib.indexByte s c = -1 ∧ c ∉ s) ∨ ∃ k : Nat, Lib.indexByte s c = (k : Int) ∧ ∃ a b, s = a ++ c :: b ∧ a.length = k ∧ c ∉ a
 | [] => .inl ⟨rfl, by simp⟩
 | b :: s => by
  unfold Lib.indexByte
  by_cases h : b = c
  ·subst h
   exact .inr ⟨0, by simp, [], s, rfl, rfl, by simp⟩
  ·have hb : (b == c) = false := by simpa using h
   rw [hb]
   rcases Qia c s with ⟨h1, h2⟩ | ⟨k, h1, a, d, h2, h3, h4⟩
   ·left
    rw [h1]
    refine ⟨by simp, by simp [h2, Ne.symm h]⟩
   ·right
    refine ⟨k + 1, ?_, b :: a, d, by rw [h2]; rfl, by simp [h3], by simp [h4, Ne.symm h]⟩
    rw [h1]
    have : ((k : Int) == -1) = false := by rw [beq_eq_false_iff_ne]; omega
    simp [this]
def setD (cs : List Value) (l : Str) : List Value := l.foldl (fun cs c => cs.set c.toNat (.bool true)) cs
def setD0 : List Value := List.replicate 256 (.bool false)
def digS : Str := [48, 49, 50, 51, 52, 53, 54, 55, 56, 57]
theorem Qky (l : Str) : ∀ cs, (setD cs l).length = cs.length := by
 induction l with
 | nil => intro cs; rfl
 | cons c l ih => intro cs; simp only [setD, List.foldl_cons] at ih ⊢; rw [ih]; simp
theorem QlH (l : Str) (c : UInt8) (cs : List Value) : setD cs (l ++ [c]) = (setD cs l).set c.toNat (.bool true) := by simp [setD]
theorem QmV (l : Str) : ∀ cs : List Value, cs.all Value.oneCell' = true → (setD cs l).all Value.oneCell' = true := by
 induction l with
 | nil => intro cs h; exact h
 | cons c l ih =>
  intro cs h
  simp only [setD, List.foldl_cons] at ih ⊢
  refine ih _ ?_
  rw [List.all_eq_true] at h ⊢
  intro x hx
  rcases List.mem_or_eq_of_mem_set hx with hx | rfl
  ·exact h x hx
  ·rfl
theorem Qmx : ∀ n : Nat, n < 256 → (match (setD setD0 digS)[n]? with | some (.bool b) => b == (decide (48 ≤ n) && decide (n ≤ 57)) | _ => false) = true := by decide +kernel
theorem Qmw (c : UInt8) : (setD setD0 digS)[c.toNat]? = some (.bool (digC c)) := by
 have h := Qmx c.toNat c.toBitVec.isLt
 unfold digC
 generalize (setD setD0 digS)[c.toNat]? = o at *
 cases o with
 | none => simp at h
 | some v => cases v <;> simp at h ⊢; exact h
section
variable {C : Ctx} {H : Heap}
theorem Qeg {s p : Str} {K : Bool → Heap → Prop} (k : K (p.isPrefixOf s) H) : Qg C s p K H := by
 apply Qbk
 unfold Q9
 refine ⟨fun b H' => H = H' ∧ b = p.isPrefixOf s, ?_, ?_⟩
 ·refine ift.of (fun h => ?_) (fun h => ⟨rfl, ?_⟩)
  ·have hl : p.length ≤ s.length := by have := of_decide_eq_true h; omega
   refine ⟨by omega, by omega, by omega, s.take p.length, by simp, rfl, ?_⟩
   rw [Bool.eq_iff_iff, List.isPrefixOf_iff_prefix, beq_iff_eq, List.prefix_iff_eq_take]
   exact ⟨fun h => h.symm, fun h => h.symm⟩
  ·have hl := of_decide_eq_false h
   cases hh : p.isPrefixOf s with
   | false => rfl
   | true =>
    have := (List.isPrefixOf_iff_prefix.1 hh).length_le
    omega
 ·rintro b _ ⟨rfl, rfl⟩
  exact k
theorem Qja {s p : Str} {K : Str → Heap → Prop} (k : K (if p.isPrefixOf s then s.drop p.length else s) H) : QaX C s p K H := by
 apply Qeb
 unfold QbQ
 apply Qbh
 unfold QX
 refine Qeg ?_
 refine ift.of (fun h => ?_) (fun h => ?_)
 ·rw [if_pos h] at k
  have := (List.isPrefixOf_iff_prefix.1 h).length_le
  exact ⟨by omega, by omega, by omega, _, by simp, k⟩
 ·rw [if_neg (by rw [h]; decide)] at k; exact k
theorem Qk5 {s : Str} {K : Str → Str → Bool → Heap → Prop} (hs : s.length ≤ 140737488355328) (k : match cutD s with | some (a, b) => K a b true H | none => K s [] false H) : QdC C s [46] K H := by
 apply QhV
 unfold Qe1
 apply Qb8
 unfold QaK
 have key : ∀ {K : Int → Heap → Prop}, K (Lib.indexByte s 46) H → QN C s [46] K H := by
  intro K k
  apply QbR
  unfold Qas
  refine ift.of (fun h => ?_) (fun h => ?_)
  ·have hs : [46] = s := by simpa using h
   subst hs
   exact k
  ·refine QE rfl ⟨46, by omega, rfl, ?_⟩
   apply Qbl
   unfold Qaa
   exact k
 refine key ?_
 rcases Qia 46 s with ⟨h1, h2⟩ | ⟨i, h1, a, b, h2, h3, h4⟩
 ·rw [h1]
  rw [QiH s h2] at k
  exact Qd rfl k
 ·rw [h1]
  subst h2
  rw [QiG a b h4] at k
  subst h3
  simp only [List.length_append, List.length_cons] at hs
  refine QE (by rw [decide_eq_true_eq]; omega) ?_
  refine ⟨by omega, by omega, by simp; omega, a, by simp, ?_⟩
  have e1 : (([46] : Str).length : Int) = 1 := rfl
  rw [e1, Qm (by omega) (by omega)]
  refine ⟨by omega, by simp; omega, by omega, b, ?_, k⟩
  have e2 : ((a.length : Int) + 1).toNat = a.length + 1 := by omega
  rw [List.take_of_length_le (by omega), e2, List.drop_append]
  simp
/-- the set of digits -/
def DSet (H : Heap) (b : Nat) : Prop := H b = some (true, .row (setD setD0 digS))
theorem Qhe {b : Nat} {c : UInt8} {K : Bool → Heap → Prop} (h : DSet H b) (k : K (digC c) H) : Qz C (some (b, 0)) (c.toNat : Int) K H := by
 apply Qb3
 unfold QaD
 refine ⟨(b, 0), rfl, by omega, by have := c.toBitVec.isLt; have : c.toNat < 256 := this; omega, digC c, ?_, k⟩
 rw [Q7 h]
 have := Qmw c
 simpa using this
theorem QmE {b : Nat} {s : Str} {K : Str → Heap → Prop} (hs : s.length ≤ 140737488355328) (h : DSet H b) (k : ∀ t, t.length ≤ s.length → t.all digC = s.all digC → K t H) : Qah C s (some (b, 0)) K H := by
 apply QcV
 unfold Qa2
 refine ⟨fun t H' => H = H' ∧ t.length ≤ s.length ∧ t.all digC = s.all digC, ?_, ?_⟩
 rotate_left
 ·rintro t _ ⟨rfl, h1, h2⟩
  exact k t h1 h2
 refine ⟨fun t H' => H = H' ∧ t.length ≤ s.length ∧ t.all digC = s.all digC, fun t _ => t.length, ⟨rfl, Nat.le_refl _, rfl⟩, ?_⟩
 rintro t _ ⟨rfl, h1, h2⟩
 refine ift.of (fun hh => ?_) (fun hh => ⟨rfl, h1, h2⟩)
 have hl : 0 < t.length := by have := of_decide_eq_true hh; omega
 have hne := List.ne_nil_of_length_pos hl
 have hd : t.dropLast ++ [t.getLast hne] = t := List.dropLast_concat_getLast hne
 rw [Qm (by omega) (by omega)]
 refine ⟨t.getLast hne, by omega, getL hl rfl, ?_⟩
 refine Qhe h ?_
 refine ift.of (fun hc => ⟨rfl, h1, h2⟩) (fun hc => ?_)
 have e1 : (t.take ((t.length : Int) - 1).toNat).drop (0 : Int).toNat = t.dropLast := by
  have : ((t.length : Int) - 1).toNat = t.length - 1 := by omega
  rw [this, List.dropLast_eq_take]; simp
 refine ⟨by omega, by omega, by omega, _, e1.symm, ?_⟩
 have hdl := List.length_dropLast (xs := t)
 refine ⟨⟨rfl, by omega, ?_⟩, by dsimp only; omega⟩
 rw [← h2]
 conv => rhs; rw [← hd]
 rw [List.all_append]
 simp at hc
 simp [hc]
theorem QmD {b : Nat} {s : Str} {K : Str → Heap → Prop} (hs : s.length ≤ 140737488355328) (h : DSet H b) (k : ∀ t, t.all digC = s.all digC → (t = [] ∨ t.all digC = false) → K t H) : Qan C s (some (b, 0)) K H := by
 apply Qdc
 unfold Qbf
 refine ⟨fun t H' => H = H' ∧ t.all digC = s.all digC ∧ (t = [] ∨ t.all digC = false), ?_, ?_⟩
 rotate_left
 ·rintro t _ ⟨rfl, h1, h2⟩
  exact k t h1 h2
 refine ⟨fun t H' => H = H' ∧ t.length ≤ s.length ∧ t.all digC = s.all digC, fun t _ => t.length, ⟨rfl, Nat.le_refl _, rfl⟩, ?_⟩
 rintro t _ ⟨rfl, h1, h2⟩
 cases t with
 | nil => exact Qd rfl ⟨rfl, h2, .inl rfl⟩
 | cons c t =>
  refine QE (by rw [decide_eq_true_eq]; simp only [List.length_cons]; omega) ?_
  refine ⟨c, by omega, rfl, ?_⟩
  refine Qhe h ?_
  refine ift.of (fun hc => ⟨rfl, h2, .inr ?_⟩) (fun hc => ?_)
  ·simp at hc; simp [hc]
  ·refine ⟨by omega, by simp only [List.length_cons]; omega, by omega, t, ?_, ⟨rfl, by simp only [List.length_cons] at h1; omega, ?_⟩, by simp⟩
   ·rw [List.take_of_length_le (by omega)]; rfl
   ·rw [← h2]; simp at hc; simp [hc]
theorem QiO {K : List Value → Bool → Heap → Prop} (k : K (setD setD0 digS) true H) : Qp C digS K H := by
 apply Qp.gh
 apply Qdw
 unfold Qbx
 intro b n
 refine ⟨fun x H' => ∃ i : Nat, x = (i : Int) ∧ i ≤ 10 ∧ H' = H.put b (.row (setD setD0 (digS.take i))), fun x _ => 10 - x.toNat, ⟨0, rfl, by omega, rfl⟩, ?_⟩
 rintro x _ ⟨i, rfl, hi, rfl⟩
 have hlen : (setD setD0 (digS.take i)).length = 256 := by rw [Qky]; simp [setD0]
 refine ift.of (fun h => ?_) (fun h => ?_)
 ·have hlt : i < digS.length := by have := of_decide_eq_true h; omega
  have hlt' : i < 10 := hlt
  refine ⟨digS[i], by omega, getE hlt, ?_⟩
  have hm : ∀ c ∈ digS, c.toNat < 128 := by decide
  have h128 := hm _ (List.getElem_mem hlt)
  have htk : digS.take (i + 1) = digS.take i ++ [digS[i]] := by rw [List.take_add_one, List.getElem?_eq_getElem hlt]; rfl
  generalize digS[i] = c at *
  refine Qd (by rw [decide_eq_false_iff_not]; omega) ?_
  refine ⟨by omega, by omega, _, Heap.put_same .., by rw [hlen]; simp; omega, ?_⟩
  rw [Qm (by omega) (by omega), Heap.put_put]
  refine ⟨⟨i + 1, by omega, by omega, ?_⟩, by first | omega | (dsimp only; omega)⟩
  rw [htk, QlH]
  have : (b, 0).2 + (c.toNat : Int).toNat * 1 = c.toNat := by simp
  rw [this]
 ·have hi10 : i = 10 := by have := of_decide_eq_false h; have : digS.length = 10 := rfl; omega
  subst hi10
  have e : digS.take 10 = digS := rfl
  rw [e] at hlen ⊢
  have hr : ∀ {B : Heap}, B b = some (true, .row (setD setD0 digS)) → rds B (b, 0) (setD setD0 digS) := fun h => QdR h fun j v hj => by simpa using hj
  refine ⟨_, hlen, hr (Heap.put_same ..), hlen, QmV _ _ (by decide +kernel), _, Heap.put_same .., by simp, ?_⟩
  have esp : splice (setD setD0 digS) (b, 0).2 (setD setD0 digS) = setD setD0 digS := by
   unfold splice; simp
  rw [esp, Heap.put_put]
  exact ⟨_, hlen, hr (Heap.put_same ..), H, Gh.le (Heap.le_put n), k⟩
theorem QkR {s : Str} {K : Str → Heap → Prop} (hs : s.length ≤ 140737488355328) (k : ∀ t, (t = [] ↔ s.all digC = true) → K t H) : Qac C s digS K H := by
 apply Qac.gh
 apply Qg8
 unfold Qet
 refine ift.of (fun h => ?_) (fun h => ?_)
 ·have : s = [] := by simpa [digS] using h
  subst this
  exact ⟨H, Gh.refl _, k [] (by simp)⟩
 refine ⟨fun b H' => H = H' ∧ b = false, Qd rfl ⟨rfl, rfl⟩, ?_⟩
 rintro _ _ ⟨rfl, rfl⟩
 refine Qd rfl ?_
 refine QiO ?_
 intro b n
 have hlen : (setD setD0 digS).length = 256 := by rw [Qky]; simp [setD0]
 refine ⟨hlen, QmV _ _ (by decide +kernel), _, Heap.put_same .., by rw [hlen]; simp, ?_⟩
 have esp : splice (List.replicate 256 (.bool false : Value)) (b, 0).2 (setD setD0 digS) = setD setD0 digS := by
  unfold splice; simp [hlen]
 rw [esp, Heap.put_put]
 refine QE rfl ?_
 refine QmE hs (Heap.put_same ..) fun t ht1 ht2 => ?_
 refine QmD (by omega) (Heap.put_same ..) fun u hu1 hu2 => ?_
 refine ⟨H, Gh.le (Heap.le_put n), k u ?_⟩
 rw [← ht2, ← hu1]
 constructor
 ·rintro rfl; rfl
 ·intro h
  rcases hu2 with h2 | h2
  ·exact h2
  ·rw [h] at h2; cases h2
theorem QhH {s : Str} {K : Int → Bool → Heap → Prop} (hs : s.length ≤ 140737488355328) (k : K (if numS s then (digits s : Int) else 0) (numS s) H) : Qc2 C s K H := by
 apply Qg9
 unfold Qeu
 refine Qja ?_
 have e : (if ([45] : Str).isPrefixOf s then s.drop ([45] : Str).length else s) = unmin s := by
  unfold unmin
  cases s with
  | nil => rfl
  | cons c t =>
   by_cases hc : c = 45
   ·subst hc; simp [List.isPrefixOf]
   ·simp [List.isPrefixOf, hc, Ne.symm hc]
 rw [e]
 have hul : (unmin s).length ≤ s.length := by unfold unmin; split <;> simp
 have hdg : digits s = (unmin s).length := rfl
 have hnu : numS s = (!(unmin s).isEmpty && (unmin s).all digC && !(decide ((unmin s).head? = some 48) && decide (s ≠ [48]))) := rfl
 rw [hdg, hnu] at k
 clear hdg hnu e
 generalize unmin s = d at *
 refine ⟨fun b H' => H = H' ∧ b = !(!d.isEmpty && d.all digC), ?_, ?_⟩
 ·refine ift.of (fun h => ⟨rfl, ?_⟩) (fun h => ?_)
  ·have : d = [] := by simpa using h
   subst this; rfl
  ·have hne : d ≠ [] := by simpa using h
   refine QkR (by omega) fun t ht => ⟨rfl, ?_⟩
   have he : d.isEmpty = false := by cases d with
    | nil => exact absurd rfl hne
    | cons _ _ => rfl
   rw [he]
   cases hd : d.all digC with
   | true => rw [ht.2 hd]; rfl
   | false =>
    have : t ≠ [] := fun e => by rw [ht.1 e] at hd; cases hd
    simpa using this
 rintro b _ ⟨rfl, rfl⟩
 refine ⟨fun b H' => H = H' ∧ b = !(!d.isEmpty && d.all digC && !(decide (d.head? = some 48) && decide (s ≠ [48]))), ?_, ?_⟩
 ·refine ift.of (fun h => ⟨rfl, ?_⟩) (fun h => ?_)
  ·simp only [Bool.not_eq_true'] at h
   rw [h]; rfl
  ·simp only [Bool.not_eq_false'] at h
   rw [h]
   cases d with
   | nil => simp at h
   | cons c t =>
    refine ⟨c, by omega, rfl, rfl, ?_⟩
    rw [e48]
    simp only [List.head?_cons, Option.some.injEq, Bool.true_and, Bool.not_not]
    congr 1
    rw [decide_not]; congr 1
    rw [Bool.eq_iff_iff]; simp
 rintro b _ ⟨rfl, rfl⟩
 refine ift.of (fun h => ?_) (fun h => ?_)
 ·simp only [Bool.not_eq_true'] at h
  rw [h] at k; exact k
 ·simp only [Bool.not_eq_false'] at h
  rw [h] at k; exact k
end
end
section
open Go Go.Proofs
section
variable {C : Ctx} {H : Heap}
theorem sEmpty {s : Str} : (s == ([] : Str)) = s.isEmpty := by cases s <;> rfl
theorem lenZ {l : List V} {n : Nat} (h : n = l.length) (m : Nat) : ((n : Int) == (m : Int)) = decide (l.length = m) := by
 rw [Bool.eq_iff_iff]; simp only [beq_iff_eq, decide_eq_true_eq]; omega
theorem Qi4 {v : V} {x : TV} {H : Heap} {K : Bool → Heap → Prop} (hv : VIs H v x) (hB : VB v) (k : K (formV v) H) : Q4 C x K H := by
 refine V.rec_ (P := fun v => ∀ {x H} {K : Bool → Heap → Prop}, VIs H v x → VB v → K (formV v) H → Q4 C x K H) (fun v ih => ?_) v hv hB k
 clear hv hB k
 intro x H K hv hB k
 apply Q4.gh
 apply Qiy
 unfold Qf0
 intro b1 n1
 have hr := hv.row
 have hl := hr.len
 have hbl := hB.l
 have hbs := hB.s
 have hk := hv.kind
 have hn := hv.num
 have ht := hv.txt
 have hb1 : (H.put b1 (.row (Qa.c x))) b1 = some (true, .row (Qa.c x)) := Heap.put_same ..
 have hle1 := Heap.le_put n1 (g := .row (Qa.c x)) (m := true)
 generalize H.put b1 (.row (Qa.c x)) = H1 at *
 refine ⟨fun b H' => H1 = H' ∧ b = okN v.k v.n v.s v.l.length, ?_, ?_⟩
 rotate_left
 ·rintro b _ ⟨rfl, rfl⟩
  refine ⟨fun y H' => ∃ i : Nat, y.2 = (i : Int) ∧ i ≤ v.l.length ∧ H1 = H' ∧ (y.1 = true → okN v.k v.n v.s v.l.length = true ∧ formVs (v.l.take i) = true) ∧ (y.1 = false → formV v = false), fun y _ => v.l.length - y.2.toNat, ⟨0, rfl, Nat.zero_le _, rfl, fun h => ⟨h, rfl⟩, fun h => by dsimp only at h; rw [Qb5, h]; rfl⟩, ?_⟩
  rintro ⟨f, y⟩ _ ⟨i, hy, hi, rfl, h1, h2⟩
  dsimp only at hy h1 h2
  subst hy
  refine bxL hb1 ?_
  rw [hl]
  refine ift.of (fun h => ?_) (fun h => ?_)
  ·simp only [Bool.and_eq_true, decide_eq_true_eq] at h
   have hlt : i < v.l.length := by omega
   obtain ⟨h3, h4⟩ := h1 h.2
   have hmem := List.getElem_mem hlt
   refine bxL hb1 ?_
   refine hr.ld hle1 rfl hlt fun z hz => ?_
   refine ih _ hmem (hz.le hle1) (hB.at hlt) ?_
   dsimp only
   rw [Qm (by omega) (by omega)]
   refine ⟨⟨i + 1, by omega, by omega, rfl, fun hf => ⟨h3, ?_⟩, fun hf => ?_⟩, by first | omega | (dsimp only; omega)⟩
   ·rw [Qhj hlt, h4]; exact hf
   ·rw [Qb5, Qef hmem hf, Bool.and_false]
  ·dsimp only
   refine ⟨H, Gh.le hle1, ?_⟩
   cases hf : f with
   | false => rw [h2 hf] at k; exact k
   | true =>
    rw [hf] at h
    simp only [Bool.and_true, decide_eq_false_iff_not] at h
    have hie : i = v.l.length := by omega
    subst hie
    obtain ⟨h3, h4⟩ := h1 hf
    rw [List.take_length] at h4
    rw [Qb5, h3, h4] at k; exact k
 refine bxK hb1 ?_
 rw [hk]
 unfold okN
 refine ift.of (fun h => ?_) (fun h => ?_)
 ·have h : v.k = 1 := by simpa using h
  rw [if_pos h]
  refine bxN hb1 ?_
  refine ⟨fun b H' => H1 = H' ∧ b = (v.n == 0 || v.n == 1), ?_, ?_⟩
  ·rw [hn]
   refine ift.of (fun h => ⟨rfl, by rw [h]; rfl⟩) (fun h => ?_)
   refine bxN hb1 ⟨rfl, ?_⟩
   rw [h, hn]; rfl
  rintro _ _ ⟨rfl, rfl⟩
  refine ⟨fun b H' => H1 = H' ∧ b = ((v.n == 0 || v.n == 1) && v.s.isEmpty), ?_, ?_⟩
  ·refine ift.of (fun h => ?_) (fun h => ⟨rfl, by rw [h]; rfl⟩)
   refine bxS hb1 ⟨rfl, ?_⟩
   rw [h, ht, sEmpty]; rfl
  rintro _ _ ⟨rfl, rfl⟩
  refine ⟨fun b H' => H1 = H' ∧ b = ((v.n == 0 || v.n == 1) && v.s.isEmpty && decide (v.l.length = 0)), ?_, ?_⟩
  ·refine ift.of (fun h => ?_) (fun h => ⟨rfl, by rw [h]; rfl⟩)
   refine bxL hb1 ⟨rfl, ?_⟩
   rw [h]; exact lenZ hl 0
  rintro _ _ ⟨rfl, rfl⟩
  exact ⟨rfl, rfl⟩
 rw [if_neg (by simpa using h)]
 refine ift.of (fun h => ?_) (fun h => ?_)
 ·have h : v.k = 2 := by simpa using h
  rw [if_pos h]
  refine bxS hb1 ?_
  refine ⟨fun b H' => H1 = H' ∧ b = (v.s.isEmpty && decide (v.l.length = 0)), ?_, ?_⟩
  ·rw [ht, sEmpty]
   refine ift.of (fun h => ?_) (fun h => ⟨rfl, by rw [h]; rfl⟩)
   refine bxL hb1 ⟨rfl, ?_⟩
   rw [h]; exact lenZ hl 0
  rintro _ _ ⟨rfl, rfl⟩
  exact ⟨rfl, rfl⟩
 rw [if_neg (by simpa using h)]
 refine ift.of (fun h => ?_) (fun h => ?_)
 ·have h : v.k = 3 := by simpa using h
  rw [if_pos h]
  refine bxN hb1 ?_
  refine ⟨fun b H' => H1 = H' ∧ b = (v.n == 0 && decide (v.l.length = 0)), ?_, ?_⟩
  ·rw [hn]
   refine ift.of (fun h => ?_) (fun h => ⟨rfl, by rw [h]; rfl⟩)
   refine bxL hb1 ⟨rfl, ?_⟩
   rw [h]; exact lenZ hl 0
  rintro _ _ ⟨rfl, rfl⟩
  refine ⟨fun b H' => H1 = H' ∧ b = (numS v.s && v.n == 0 && decide (v.l.length = 0)), ?_, ?_⟩
  ·refine ift.of (fun h => ?_) (fun h => ⟨rfl, ?_⟩)
   ·refine bxS hb1 ?_
    rw [ht]
    refine QhC hbs ⟨rfl, ?_⟩
    rw [Bool.and_assoc, h, Bool.and_true]
   ·rw [Bool.and_assoc, h, Bool.and_false]
  rintro _ _ ⟨rfl, rfl⟩
  exact ⟨rfl, rfl⟩
 rw [if_neg (by simpa using h)]
 refine ift.of (fun h => ?_) (fun h => ?_)
 ·have h : v.k = 4 := by simpa using h
  rw [if_pos h]
  refine bxN hb1 ?_
  refine ⟨fun b H' => H1 = H' ∧ b = (v.n == 0 && decide (v.l.length = 0)), ?_, ?_⟩
  ·rw [hn]
   refine ift.of (fun h => ?_) (fun h => ⟨rfl, by rw [h]; rfl⟩)
   refine bxL hb1 ⟨rfl, ?_⟩
   rw [h]; exact lenZ hl 0
  rintro _ _ ⟨rfl, rfl⟩
  exact ⟨rfl, rfl⟩
 rw [if_neg (by simpa using h)]
 refine ift.of (fun h => ?_) (fun h => ?_)
 ·have h : v.k = 5 := by simpa using h
  rw [if_pos h]
  refine bxN hb1 ?_
  refine ⟨fun b H' => H1 = H' ∧ b = (v.n == 0 && v.s.isEmpty), ?_, ?_⟩
  ·rw [hn]
   refine ift.of (fun h => ?_) (fun h => ⟨rfl, by rw [h]; rfl⟩)
   refine bxS hb1 ⟨rfl, ?_⟩
   rw [h, ht, sEmpty]; rfl
  rintro _ _ ⟨rfl, rfl⟩
  refine ⟨fun b H' => H1 = H' ∧ b = (v.n == 0 && v.s.isEmpty && decide (v.l.length ≠ 1)), ?_, ?_⟩
  ·refine ift.of (fun h => ?_) (fun h => ⟨rfl, by rw [h]; rfl⟩)
   refine bxL hb1 ⟨rfl, ?_⟩
   rw [h, bne, show ((x.L.len : Int) == 1) = decide (v.l.length = 1) from lenZ hl 1, decide_not]; rfl
  rintro _ _ ⟨rfl, rfl⟩
  exact ⟨rfl, rfl⟩
 rw [if_neg (by simpa using h)]
 refine ift.of (fun h => ?_) (fun h => ?_)
 ·have h : v.k = 6 := by simpa using h
  rw [if_pos h]
  refine bxN hb1 ?_
  refine ⟨fun b H' => H1 = H' ∧ b = (v.n == 0 && namesS v.s), ?_, ?_⟩
  ·rw [hn]
   refine ift.of (fun h => ?_) (fun h => ⟨rfl, by rw [h]; rfl⟩)
   refine bxS hb1 ?_
   rw [ht]
   refine Qh6 hbs ⟨rfl, ?_⟩
   rw [h]; rfl
  rintro _ _ ⟨rfl, rfl⟩
  exact ⟨rfl, rfl⟩
 rw [if_neg (by simpa using h)]
 exact ⟨rfl, rfl⟩
theorem Qho {k n : Int} {s : Str} {m : Nat} (h : okN k n s m = true) (hk : k = 3) : numS s = true := by
 unfold okN at h
 rw [if_neg (by omega), if_neg (by omega), if_pos hk] at h
 simp only [Bool.and_eq_true] at h
 exact h.1.1
theorem Qi3 {v : V} {x : TV} {H : Heap} {K : Bool → Heap → Prop} (hv : VIs H v x) (hB : VB v) (hF : formV v = true) (k : K (fitsV v) H) : Q3 C x K H := by
 refine V.rec_ (P := fun v => ∀ {x H} {K : Bool → Heap → Prop}, VIs H v x → VB v → formV v = true → K (fitsV v) H → Q3 C x K H) (fun v ih => ?_) v hv hB hF k
 clear hv hB hF k
 intro x H K hv hB hF k
 apply Q3.gh
 apply Qix
 unfold QfZ
 intro b1 n1
 have hr := hv.row
 have hl := hr.len
 have hbl := hB.l
 have hbs := hB.s
 have hk := hv.kind
 have hn := hv.num
 have ht := hv.txt
 rw [Qb5, Bool.and_eq_true] at hF
 have hb1 : (H.put b1 (.row (Qa.c x))) b1 = some (true, .row (Qa.c x)) := Heap.put_same ..
 have hle1 := Heap.le_put n1 (g := .row (Qa.c x)) (m := true)
 generalize H.put b1 (.row (Qa.c x)) = H1 at *
 refine ⟨fun b H' => H1 = H' ∧ b = fitN v.k v.s v.l.length, ?_, ?_⟩
 rotate_left
 ·rintro b _ ⟨rfl, rfl⟩
  refine ⟨fun y H' => ∃ i : Nat, y.2 = (i : Int) ∧ i ≤ v.l.length ∧ H1 = H' ∧ (y.1 = true → fitN v.k v.s v.l.length = true ∧ fitsVs (v.l.take i) = true) ∧ (y.1 = false → fitsV v = false), fun y _ => v.l.length - y.2.toNat, ⟨0, rfl, Nat.zero_le _, rfl, fun h => ⟨h, rfl⟩, fun h => by dsimp only at h; rw [QgT, h]; rfl⟩, ?_⟩
  rintro ⟨f, y⟩ _ ⟨i, hy, hi, rfl, h1, h2⟩
  dsimp only at hy h1 h2
  subst hy
  refine bxL hb1 ?_
  rw [hl]
  refine ift.of (fun h => ?_) (fun h => ?_)
  ·simp only [Bool.and_eq_true, decide_eq_true_eq] at h
   have hlt : i < v.l.length := by omega
   obtain ⟨h3, h4⟩ := h1 h.2
   have hmem := List.getElem_mem hlt
   refine bxL hb1 ?_
   refine hr.ld hle1 rfl hlt fun z hz => ?_
   refine ih _ hmem (hz.le hle1) (hB.at hlt) (Qbe hmem hF.2) ?_
   dsimp only
   rw [Qm (by omega) (by omega)]
   refine ⟨⟨i + 1, by omega, by omega, rfl, fun hf => ⟨h3, ?_⟩, fun hf => ?_⟩, by first | omega | (dsimp only; omega)⟩
   ·rw [Qfb hlt, h4]; exact hf
   ·have h5 : fitsVs (v.l.take (i + 1)) = false := by rw [Qfb hlt]; rw [hf, Bool.and_false]
    have h6 := QdG (v.l.take (i + 1)) (v.l.drop (i + 1))
    rw [List.take_append_drop, h5] at h6
    rw [QgT, h6]; simp
  ·dsimp only
   refine ⟨H, Gh.le hle1, ?_⟩
   cases hf : f with
   | false => rw [h2 hf] at k; exact k
   | true =>
    rw [hf] at h
    simp only [Bool.and_true, decide_eq_false_iff_not] at h
    have hie : i = v.l.length := by omega
    subst hie
    obtain ⟨h3, h4⟩ := h1 hf
    rw [List.take_length] at h4
    rw [QgT, h3, h4] at k; exact k
 refine bxK hb1 ?_
 rw [hk]
 unfold fitN
 refine ift.of (fun h => ?_) (fun h => ?_)
 ·have h : v.k = 3 := by simpa using h
  rw [if_pos h]
  refine bxS hb1 ?_
  rw [ht]
  refine QhB hbs (Qho hF.1 h) ⟨rfl, ?_⟩
  rw [decide_eq_decide]; omega
 rw [if_neg (by simpa using h)]
 refine ift.of (fun h => ?_) (fun h => ?_)
 ·have h : v.k = 4 := by simpa using h
  rw [if_pos h]
  refine bxS hb1 ⟨rfl, ?_⟩
  rw [ht, decide_eq_decide]; omega
 rw [if_neg (by simpa using h)]
 refine ift.of (fun h => ?_) (fun h => ?_)
 ·have h : v.k = 5 := by simpa using h
  rw [if_pos h]
  refine bxL hb1 ⟨rfl, ?_⟩
  rw [decide_eq_decide]; omega
 rw [if_neg (by simpa using h)]
 refine ift.of (fun h => ?_) (fun h => ?_)
 ·have h : v.k = 6 := by simpa using h
  rw [if_pos h]
  refine bxL hb1 ⟨rfl, ?_⟩
  rw [decide_eq_decide]; omega
 rw [if_neg (by simpa using h)]
 exact ⟨rfl, rfl⟩
theorem QeQ {v : V} {x : TV} {H : Heap} {K : Int → Heap → Prop} (hv : VIs H v x) (hB : VB v) (hs : vsize v ≤ 4611686018427387904) (k : K (checkV v) H) : Q2 C x K H := by
 apply Q2.gh
 apply QhR
 unfold QeX
 intro b1 n1
 have hb1 : (H.put b1 (.row (Qa.c x))) b1 = some (true, .row (Qa.c x)) := Heap.put_same ..
 have hle1 := Heap.le_put n1 (g := .row (Qa.c x)) (m := true)
 generalize H.put b1 (.row (Qa.c x)) = H1 at *
 unfold checkV at k
 refine bxV hb1 (Qh5 (hv.le hle1) hB hs ?_)
 refine ift.of (fun h => ?_) (fun h => ?_)
 ·have h := of_decide_eq_true h
  rw [if_pos (by omega)] at k
  exact ⟨H, Gh.le hle1, k⟩
 have h := of_decide_eq_false h
 rw [if_neg (by omega)] at k
 refine bxV hb1 (Qi4 (hv.le hle1) hB ?_)
 refine ift.of (fun h => ?_) (fun h => ?_)
 ·have h : formV v = false := by simpa using h
  rw [if_pos h] at k
  exact ⟨H, Gh.le hle1, k⟩
 have hf : formV v = true := by simpa using h
 rw [if_neg (by rw [hf]; decide)] at k
 refine bxV hb1 (Qi3 (hv.le hle1) hB hf ?_)
 refine ift.of (fun h => ?_) (fun h => ?_)
 ·have h : fitsV v = false := by simpa using h
  rw [if_pos h] at k
  exact ⟨H, Gh.le hle1, k⟩
 have hf : fitsV v = true := by simpa using h
 rw [if_neg (by rw [hf]; decide)] at k
 exact ⟨H, Gh.le hle1, k⟩
end
end
section
open Go Go.Proofs
theorem Qli (s : Str) : namesS s = (match cutD s with | some (a, b) => nameS a && nameS b | none => nameS s && !decide (s = trueS) && !decide (s = falseS)) := by
 unfold namesS
 by_cases ht : s = trueS
 ·subst ht; rfl
 by_cases hf : s = falseS
 ·subst hf; rfl
 rw [if_neg (fun h => h.elim ht hf)]
 cases hc : cutD s with
 | none => simp [ht, hf]
 | some p => rfl
section
variable {C : Ctx} {H : Heap}
theorem Qnb {v : V} {x : TV} {H : Heap} {K : Bool → Bool → Heap → Prop} (hv : VIs H v x) (hB : VB v) (k : ∀ g, (formV v = true → g = fitsV v) → K (formV v) g H) : Qt C x K H := by
 refine V.rec_ (P := fun v => ∀ {x H} {K : Bool → Bool → Heap → Prop}, VIs H v x → VB v → (∀ g, (formV v = true → g = fitsV v) → K (formV v) g H) → Qt C x K H) (fun v ih => ?_) v hv hB k
 clear hv hB k
 intro x H K hv hB k
 apply Qt.gh
 apply Qfy
 unfold QcR
 intro b1 n1
 have hr := hv.row
 have hl := hr.len
 have hbl := hB.l
 have hbs := hB.s
 have hk := hv.kind
 have hn := hv.num
 have ht := hv.txt
 have hb1 : (H.put b1 (.row (Qa.c x))) b1 = some (true, .row (Qa.c x)) := Heap.put_same ..
 have hle1 := Heap.le_put n1 (g := .row (Qa.c x)) (m := true)
 generalize H.put b1 (.row (Qa.c x)) = H1 at *
 refine bxN hb1 ?_
 refine ⟨fun b H' => H1 = H', ?_, ?_⟩
 ·exact ift.of (fun _ => bxS hb1 rfl) (fun _ => rfl)
 rintro _ _ rfl
 refine ⟨fun b H' => H1 = H', ?_, ?_⟩
 ·exact ift.of (fun _ => bxL hb1 rfl) (fun _ => rfl)
 rintro _ _ rfl
 refine ⟨fun b H' => H1 = H' ∧ b.1 = okN v.k v.n v.s v.l.length ∧ (b.1 = true → b.2 = fitN v.k v.s v.l.length), ?_, ?_⟩
 rotate_left
 ·rintro ⟨o, g⟩ _ ⟨rfl, ho, hg⟩
  dsimp only at ho hg ⊢
  subst ho
  refine bxL hb1 ?_
  refine ⟨fun y H' => ∃ i : Nat, y.2.2 = (i : Int) ∧ i ≤ v.l.length ∧ H.le H' ∧ y.1 = (okN v.k v.n v.s v.l.length && formVs (v.l.take i)) ∧ (y.1 = true → y.2.1 = (fitN v.k v.s v.l.length && fitsVs (v.l.take i))), fun y _ => v.l.length - y.2.2.toNat, ⟨0, rfl, Nat.zero_le _, hle1, by simp [formVs], fun h => by simp [fitsVs, hg h]⟩, ?_⟩
  rintro ⟨f, g', y⟩ H2 ⟨i, hy, hi, hle, h1, h2⟩
  dsimp only at hy h1 h2
  subst hy
  dsimp only
  rw [hl]
  refine ift.of (fun h => ?_) (fun h => ?_)
  ·have hlt : i < v.l.length := by have := of_decide_eq_true h; omega
   have hmem := List.getElem_mem hlt
   refine hr.ld hle rfl hlt fun z hz => ?_
   intro b20 n20
   refine ⟨_, Heap.put_same .., by simp [Qa.c], ?_⟩
   rw [Heap.put_put]
   have esp : splice (Qa.c Qa.zero) (b20, 0).2 (Qa.c z) = Qa.c z := rfl
   rw [esp]
   have hle2 := hle.trans (Heap.le_put n20 (g := .row (Qa.c z)) (m := true))
   refine bxV (Heap.put_same ..) ?_
   refine ih _ hmem (hz.le hle2) (hB.at hlt) fun q hq => ?_
   rw [Qm (by omega) (by omega)]
   refine ⟨⟨i + 1, by omega, by omega, hle2, ?_, fun hh => ?_⟩, by first | omega | (dsimp only; omega)⟩
   ·rw [h1, Qhj hlt, Bool.and_assoc]
   ·rw [Bool.and_eq_true] at hh
    rw [h2 hh.1, Qfb hlt, hq hh.2, Bool.and_assoc]
  ·have hie : i = v.l.length := by have := of_decide_eq_false h; omega
   subst hie
   rw [List.take_length] at h1 h2
   rw [← Qb5] at h1
   rw [← QgT] at h2
   refine ⟨H, Gh.le hle, ?_⟩
   rw [h1] at h2 ⊢
   exact k g' h2
 refine bxK hb1 ?_
 rw [hk]
 refine ift.of (fun h => ?_) (fun h => ?_)
 ·have h : v.k = 1 := by simpa using h
  have eo : okN v.k v.n v.s v.l.length = ((v.n == 0 || v.n == 1) && v.s.isEmpty && decide (v.l.length = 0)) := by rw [h]; rfl
  have ef : fitN v.k v.s v.l.length = true := by rw [h]; rfl
  rw [eo, ef]
  refine bxN hb1 ?_
  refine ⟨fun b H' => H1 = H' ∧ b = (v.n == 0 || v.n == 1), ?_, ?_⟩
  ·rw [hn]
   refine ift.of (fun h => ⟨rfl, by rw [h]; rfl⟩) (fun h => ?_)
   refine bxN hb1 ⟨rfl, ?_⟩
   rw [h, hn]; rfl
  rintro _ _ ⟨rfl, rfl⟩
  refine ⟨fun b H' => H1 = H' ∧ b = ((v.n == 0 || v.n == 1) && v.s.isEmpty), ?_, ?_⟩
  ·refine ift.of (fun h => ?_) (fun h => ⟨rfl, by rw [h]; rfl⟩)
   refine bxS hb1 ⟨rfl, ?_⟩
   rw [h, ht, sEmpty]; rfl
  rintro _ _ ⟨rfl, rfl⟩
  refine ⟨fun b H' => H1 = H' ∧ b = ((v.n == 0 || v.n == 1) && v.s.isEmpty && decide (v.l.length = 0)), ?_, ?_⟩
  ·refine ift.of (fun h => ?_) (fun h => ⟨rfl, by rw [h]; rfl⟩)
   refine bxL hb1 ⟨rfl, ?_⟩
   rw [h]; exact lenZ hl 0
  rintro _ _ ⟨rfl, rfl⟩
  exact ⟨rfl, rfl, fun _ => rfl⟩
 have g1 : v.k ≠ 1 := by simpa using h
 refine ift.of (fun h => ?_) (fun h => ?_)
 ·have h : v.k = 2 := by simpa using h
  have eo : okN v.k v.n v.s v.l.length = (v.s.isEmpty && decide (v.l.length = 0)) := by rw [h]; rfl
  have ef : fitN v.k v.s v.l.length = true := by rw [h]; rfl
  rw [eo, ef]
  refine bxS hb1 ?_
  refine ⟨fun b H' => H1 = H' ∧ b = (v.s.isEmpty && decide (v.l.length = 0)), ?_, ?_⟩
  ·rw [ht, sEmpty]
   refine ift.of (fun h => ?_) (fun h => ⟨rfl, by rw [h]; rfl⟩)
   refine bxL hb1 ⟨rfl, ?_⟩
   rw [h]; exact lenZ hl 0
  rintro _ _ ⟨rfl, rfl⟩
  exact ⟨rfl, rfl, fun _ => rfl⟩
 have g2 : v.k ≠ 2 := by simpa using h
 refine ift.of (fun h => ?_) (fun h => ?_)
 ·have h : v.k = 3 := by simpa using h
  have eo : okN v.k v.n v.s v.l.length = (numS v.s && v.n == 0 && decide (v.l.length = 0)) := by rw [h]; rfl
  have ef : fitN v.k v.s v.l.length = decide (digits v.s ≤ 200) := by rw [h]; rfl
  rw [eo, ef]
  refine bxS hb1 ?_
  rw [ht]
  refine QhH hbs ?_
  refine ⟨fun b H' => H1 = H' ∧ b = (numS v.s && v.n == 0), ?_, ?_⟩
  ·refine ift.of (fun h => ?_) (fun h => ⟨rfl, by rw [h]; rfl⟩)
   refine bxN hb1 ⟨rfl, ?_⟩
   rw [h, hn]; rfl
  rintro _ _ ⟨rfl, rfl⟩
  refine ⟨fun b H' => H1 = H' ∧ b = (numS v.s && v.n == 0 && decide (v.l.length = 0)), ?_, ?_⟩
  ·refine ift.of (fun h => ?_) (fun h => ⟨rfl, by rw [h]; rfl⟩)
   refine bxL hb1 ⟨rfl, ?_⟩
   rw [h]; exact lenZ hl 0
  rintro _ _ ⟨rfl, rfl⟩
  refine ⟨rfl, rfl, fun hh => ?_⟩
  dsimp only at hh ⊢
  simp only [Bool.and_eq_true] at hh
  rw [hh.1.1, if_pos rfl, decide_eq_decide]; omega
 have g3 : v.k ≠ 3 := by simpa using h
 refine ift.of (fun h => ?_) (fun h => ?_)
 ·have h : v.k = 4 := by simpa using h
  have eo : okN v.k v.n v.s v.l.length = (v.n == 0 && decide (v.l.length = 0)) := by rw [h]; rfl
  have ef : fitN v.k v.s v.l.length = decide (v.s.length ≤ 4096) := by rw [h]; rfl
  rw [eo, ef]
  have ed : decide ((v.s.length : Int) ≤ 4096) = decide (v.s.length ≤ 4096) := by rw [decide_eq_decide]; omega
  refine ⟨fun b H' => H1 = H' ∧ b = ((v.n == 0 && decide (v.l.length = 0)), decide (v.s.length ≤ 4096)), ?_, ?_⟩
  ·refine ⟨H1, Heap.le.refl _, bxN hb1 (bxS hb1 ?_)⟩
   rw [hn, ht, ed]
   refine ift.of (fun h => ?_) (fun h => ⟨rfl, by rw [h]; rfl⟩)
   refine bxL hb1 ⟨rfl, ?_⟩
   rw [h, show ((x.L.len : Int) == 0) = decide (v.l.length = 0) from lenZ hl 0]; rfl
  rintro _ _ ⟨rfl, rfl⟩
  exact ⟨rfl, rfl, fun _ => rfl⟩
 have g4 : v.k ≠ 4 := by simpa using h
 refine ift.of (fun h => ?_) (fun h => ?_)
 ·have h : v.k = 5 := by simpa using h
  have eo : okN v.k v.n v.s v.l.length = (v.n == 0 && v.s.isEmpty && decide (v.l.length ≠ 1)) := by rw [h]; rfl
  have ef : fitN v.k v.s v.l.length = decide (v.l.length ≤ 16) := by rw [h]; rfl
  rw [eo, ef]
  have ed : decide ((x.L.len : Int) ≤ 16) = decide (v.l.length ≤ 16) := by rw [decide_eq_decide]; omega
  refine ⟨fun b H' => H1 = H' ∧ b = ((v.n == 0 && v.s.isEmpty && decide (v.l.length ≠ 1)), decide (v.l.length ≤ 16)), ?_, ?_⟩
  ·refine ⟨H1, Heap.le.refl _, bxN hb1 (bxL hb1 ?_)⟩
   rw [hn, ed]
   refine ift.of (fun h => ?_) (fun h => ⟨rfl, by rw [h]; rfl⟩)
   refine bxS hb1 ?_
   rw [ht, sEmpty]
   refine ift.of (fun h2 => ?_) (fun h2 => ⟨rfl, by rw [h2]; simp⟩)
   refine bxL hb1 ⟨rfl, ?_⟩
   rw [h, h2, bne, show ((x.L.len : Int) == 1) = decide (v.l.length = 1) from lenZ hl 1, decide_not]; rfl
  rintro _ _ ⟨rfl, rfl⟩
  exact ⟨rfl, rfl, fun _ => rfl⟩
 have g5 : v.k ≠ 5 := by simpa using h
 refine ift.of (fun h => ?_) (fun h => ?_)
 ·have h : v.k = 6 := by simpa using h
  have eo : okN v.k v.n v.s v.l.length = (v.n == 0 && namesS v.s) := by rw [h]; rfl
  have ef : fitN v.k v.s v.l.length = decide (v.l.length ≤ 8) := by rw [h]; rfl
  rw [eo, ef]
  have ed : decide ((x.L.len : Int) ≤ 8) = decide (v.l.length ≤ 8) := by rw [decide_eq_decide]; omega
  refine bxS hb1 ?_
  rw [ht]
  refine Qk5 hbs ?_
  have key : ∀ (a b : Str) (two : Bool), a.length ≤ 140737488355328 → b.length ≤ 140737488355328 → namesS v.s = (if two then nameS a && nameS b else nameS a && !decide (v.s = trueS) && !decide (v.s = falseS)) →
   jn (α := Bool × Bool) (fun x118 H119 => H1 = H119 ∧ x118.1 = (v.n == 0 && namesS v.s) ∧ (x118.1 = true → x118.2 = decide (v.l.length ≤ 8)))
    (fun J117 => dr H1 fun Hs121 =>
    ldI Hs121 .i64 ((b1, 0).1, (b1, 0).2 + 1) fun x123 =>
    ldL Hs121 ((b1, 0).1, (b1, 0).2 + 3) fun x125 =>
    ift ((x123 : Int) == 0)
    (Qbd C a (fun r129 H130 =>
    Heap.le Hs121 H130 ∧
    ift r129
    (ift two
    (Qbd C b (fun r134 H135 =>
    Heap.le Hs121 H135 ∧
    ift r134
    (J117 (true, (decide (((Sl.len x125 : Int) : Int) ≤ 8))) H135)
    (ift (!two)
    (ldS Hs121 ((b1, 0).1, (b1, 0).2 + 2) fun x138 =>
    ift (!(x138 == ([116, 114, 117, 101] : Str)))
    (ldS Hs121 ((b1, 0).1, (b1, 0).2 + 2) fun x141 =>
    J117 ((!(x141 == ([102, 97, 108, 115, 101] : Str))), (decide (((Sl.len x125 : Int) : Int) ≤ 8))) H135)
    (J117 (false, (decide (((Sl.len x125 : Int) : Int) ≤ 8))) H135))
    (J117 (false, (decide (((Sl.len x125 : Int) : Int) ≤ 8))) H135))) H130)
    (ift (!two)
    (ldS Hs121 ((b1, 0).1, (b1, 0).2 + 2) fun x144 =>
    ift (!(x144 == ([116, 114, 117, 101] : Str)))
    (ldS Hs121 ((b1, 0).1, (b1, 0).2 + 2) fun x147 =>
    J117 ((!(x147 == ([102, 97, 108, 115, 101] : Str))), (decide (((Sl.len x125 : Int) : Int) ≤ 8))) H130)
    (J117 (false, (decide (((Sl.len x125 : Int) : Int) ≤ 8))) H130))
    (J117 (false, (decide (((Sl.len x125 : Int) : Int) ≤ 8))) H130)))
    (J117 (false, (decide (((Sl.len x125 : Int) : Int) ≤ 8))) H130)) H1)
    (J117 (false, (decide (((Sl.len x125 : Int) : Int) ≤ 8))) H1)) := by
   intro a b two ha hb hns
   refine ⟨fun y H' => H1 = H' ∧ y = ((v.n == 0 && namesS v.s), decide (v.l.length ≤ 8)), ?_, ?_⟩
   ·refine ⟨H1, Heap.le.refl _, bxN hb1 (bxL hb1 ?_)⟩
    rw [hn, ed]
    refine ift.of (fun h => ?_) (fun h => ⟨rfl, by rw [h]; rfl⟩)
    refine Qf8 ha ⟨Heap.le.refl _, ?_⟩
    rw [h, hns]
    refine ift.of (fun h2 => ?_) (fun h2 => ⟨rfl, by rw [h2]; cases two <;> rfl⟩)
    rw [h2]
    have eq : ∀ t : Str, (v.s == t) = decide (v.s = t) := fun t => by rw [Bool.eq_iff_iff]; simp
    cases two with
    | true =>
     refine QE rfl ?_
     refine Qf8 hb ⟨Heap.le.refl _, ?_⟩
     exact ift.of (fun h3 => ⟨rfl, by rw [h3]; rfl⟩) (fun h3 => Qd rfl ⟨rfl, by rw [h3]; rfl⟩)
    | false =>
     refine Qd rfl (QE rfl ?_)
     refine bxS hb1 ?_
     rw [ht, show (v.s == ([116, 114, 117, 101] : Str)) = decide (v.s = trueS) from eq _]
     refine ift.of (fun h3 => ?_) (fun h3 => ⟨rfl, ?_⟩)
     ·refine bxS hb1 ⟨rfl, ?_⟩
      rw [ht, show (v.s == ([102, 97, 108, 115, 101] : Str)) = decide (v.s = falseS) from eq _, h3]; rfl
     ·rw [h3]; rfl
   ·rintro _ _ ⟨rfl, rfl⟩
    exact ⟨rfl, rfl, fun _ => rfl⟩
  have hc := Qli v.s
  cases hcd : cutD v.s with
  | none =>
   rw [hcd] at hc
   exact key _ _ _ hbs (by simp) hc
  | some p =>
   obtain ⟨a, b⟩ := p
   rw [hcd] at hc
   have hlen : a.length ≤ v.s.length ∧ b.length ≤ v.s.length := by
    by_cases hm : (46 : UInt8) ∈ v.s
    ·obtain ⟨a', b', e1, e2⟩ := Qkg _ hm
     have := QiG a' b' e2
     rw [← e1, hcd] at this
     injection this with this; injection this with h1 h2
     subst h1; subst h2
     rw [e1]; simp; omega
    ·rw [QiH _ hm] at hcd; cases hcd
   exact key _ _ _ (by omega) (by omega) hc
 have g6 : v.k ≠ 6 := by simpa using h
 have eo : okN v.k v.n v.s v.l.length = false := by unfold okN; rw [if_neg g1, if_neg g2, if_neg g3, if_neg g4, if_neg g5, if_neg g6]
 rw [eo]
 exact ⟨rfl, rfl, fun hh => by cases hh⟩
theorem Qdb {v : V} {x : TV} {H : Heap} {K : Int → Heap → Prop} (hv : VIs H v x) (hB : VB v) (k : K (checkV v) H) : QQ C x K H := by
 apply QQ.gh
 apply QhW
 unfold Qe2
 intro b1 n1
 have hb1 : (H.put b1 (.row (Qa.c x))) b1 = some (true, .row (Qa.c x)) := Heap.put_same ..
 have hle1 := Heap.le_put n1 (g := .row (Qa.c x)) (m := true)
 generalize H.put b1 (.row (Qa.c x)) = H1 at *
 unfold checkV at k
 refine bxV hb1 (Qh7 (m := 65) (hv.le hle1) hB (by omega) fun r h0 h1 h2 => ?_)
 refine ift.of (fun h => ?_) (fun h => ?_)
 ·have h := of_decide_eq_true h
  rw [if_pos (by omega)] at k
  exact ⟨H, Gh.le hle1, k⟩
 have h := of_decide_eq_false h
 rw [if_neg (by omega)] at k
 refine bxV hb1 (Qnb (hv.le hle1) hB fun g hg => ?_)
 refine ift.of (fun h => ?_) (fun h => ?_)
 ·have h : formV v = false := by simpa using h
  rw [if_pos h] at k
  exact ⟨H, Gh.le hle1, k⟩
 have hf : formV v = true := by simpa using h
 rw [if_neg (by rw [hf]; decide)] at k
 rw [hg hf]
 refine ift.of (fun h => ?_) (fun h => ?_)
 ·have h : fitsV v = false := by simpa using h
  rw [if_pos h] at k
  exact ⟨H, Gh.le hle1, k⟩
 have hf : fitsV v = true := by simpa using h
 rw [if_neg (by rw [hf]; decide)] at k
 exact ⟨H, Gh.le hle1, k⟩
end
end
section
open Go Go.Proofs
theorem Qj9 (t : Str) : vcmpS [] t = sgn 0 t.length := by
 cases t with
 | nil => rfl
 | cons c t => unfold vcmpS sgn; rw [if_pos (by simp <;> omega)]
theorem Qka (t : Str) : vcmpS t [] = sgn t.length 0 := by
 cases t with
 | nil => rfl
 | cons c t => unfold vcmpS sgn; rw [if_neg (by simp <;> omega), if_pos (by simp <;> omega)]
theorem Qi5 (a b : Int) (i : Int) : sgn (a + i) (b + i) = sgn a b := by
 unfold sgn
 by_cases h : a < b
 ·rw [if_pos h, if_pos (by omega)]
 ·rw [if_neg h, if_neg (by omega)]
  by_cases h2 : b < a
  ·rw [if_pos h2, if_pos (by omega)]
  ·rw [if_neg h2, if_neg (by omega)]
theorem Qhd (t : List V) : cmpVs [] t = sgn 0 t.length := by
 cases t with
 | nil => simp [cmpVs, sgn]
 | cons c t => simp only [cmpVs]; unfold sgn; rw [if_pos (by simp <;> omega)]
theorem QjU (t : List V) : cmpVs t [] = sgn t.length 0 := by
 cases t with
 | nil => simp [cmpVs, sgn]
 | cons c t => simp only [cmpVs]; unfold sgn; rw [if_neg (by simp <;> omega), if_pos (by simp <;> omega)]
theorem QeA {s : Str} (h : numS s = true) (hm : isMin s = true) : isMin s.tail = false ∧ s.tail ≠ [] := by
 cases s with
 | nil => simp [isMin] at hm
 | cons c t =>
  have hc : c = 45 := by simpa [isMin] using hm
  subst hc
  cases t with
  | nil => simp [numS, unmin] at h
  | cons d u =>
   refine ⟨?_, by simp⟩
   simp only [numS, unmin, List.head?_cons, if_true, List.tail_cons, Bool.and_eq_true, List.all_cons] at h
   have hd := h.1.2.1
   unfold isMin
   simp only [List.tail_cons, List.head?_cons, Option.some.injEq, decide_eq_false_iff_not]
   rintro rfl
   simp [digC] at hd
theorem Qk1 {a b : Str} (ha : isMin a = false) (hb : isMin b = false) : cmpB a b = cmpD a b := by unfold cmpB; rw [ha, hb]; rfl
theorem Qgi {s : Str} (h : numS s = true) : s ≠ [] := fun e => by subst e; simp [numS, unmin] at h
section
variable {C : Ctx} {H : Heap}
theorem Qgh {a b : Int} {K : Int → Heap → Prop} (k : K (sgn a b) H) : Qaj C a b K H := by
 apply Qiz
 unfold Qf1
 unfold sgn at k
 refine ift.of (fun h => ?_) (fun h => ?_)
 ·rw [if_pos (of_decide_eq_true h)] at k; exact k
 rw [if_neg (of_decide_eq_false h)] at k
 refine ift.of (fun h => ?_) (fun h => ?_)
 ·rw [if_pos (of_decide_eq_true h)] at k; exact k
 ·rw [if_neg (of_decide_eq_false h)] at k; exact k
theorem Qi9 {a b : Str} {K : Int → Heap → Prop} (ha : a.length ≤ 140737488355328) (hb : b.length ≤ 140737488355328) (k : K (vcmpS a b) H) : Qbq C a b K H := by
 apply QhU
 unfold Qe0
 refine ⟨fun x H' => ∃ i : Nat, x = (i : Int) ∧ i ≤ a.length ∧ i ≤ b.length ∧ H = H' ∧ vcmpS a b = vcmpS (a.drop i) (b.drop i), fun x _ => a.length - x.toNat, ⟨0, rfl, Nat.zero_le _, Nat.zero_le _, rfl, rfl⟩, ?_⟩
 rintro x _ ⟨i, rfl, hi, hi2, rfl, hc⟩
 refine ift.of (fun h => ?_) (fun h => ?_)
 ·simp only [Bool.and_eq_true, decide_eq_true_eq] at h
  have h1 : i < a.length := by omega
  have h2 : i < b.length := by omega
  rw [List.drop_eq_getElem_cons h1, List.drop_eq_getElem_cons h2] at hc
  have g1 := getE h1
  have g2 := getE h2
  generalize a[i] = c at *
  generalize b[i] = d at *
  refine ⟨c, by omega, g1, d, by omega, g2, ?_⟩
  have hcl : c.toNat < 256 := c.toBitVec.isLt
  have hdl : d.toNat < 256 := d.toBitVec.isLt
  refine ift.of (fun h => ?_) (fun h => ?_)
  ·have hne : c ≠ d := fun e => by subst e; simp at h
   simp only [vcmpS, if_neg hne] at hc
   refine ⟨H, Heap.le.refl _, c, by omega, g1, d, by omega, g2, ?_⟩
   dsimp only
   rw [Qm (by omega) (by omega), Qm (by omega) (by omega)]
   refine Qgh ⟨Heap.le.refl _, ?_⟩
   rw [hc] at k; exact k
  ·have he : c = d := UInt8.toNat_inj.1 (by simp at h; omega)
   simp only [vcmpS, if_pos he] at hc
   rw [Qm (by omega) (by omega)]
   exact ⟨⟨i + 1, by omega, by omega, by omega, rfl, hc⟩, by first | omega | (dsimp only; omega)⟩
 ·simp only [Bool.and_eq_false_iff, decide_eq_false_iff_not] at h
  refine Qgh ?_
  have e : vcmpS a b = sgn a.length b.length := by
   rcases h with h | h
   ·have : i = a.length := by omega
    subst this
    rw [hc, List.drop_length, Qj9, List.length_drop]
    have := Qi5 0 ((b.length - a.length : Nat) : Int) a.length
    rw [← this]; congr 1 <;> omega
   ·have : i = b.length := by omega
    subst this
    rw [hc, List.drop_length, Qka, List.length_drop]
    have := Qi5 ((a.length - b.length : Nat) : Int) 0 b.length
    rw [← this]; congr 1 <;> omega
  rw [e] at k; exact k
theorem QgU {c : UInt8} {t : Str} : ((c.toNat : Int) == 45) = isMin (c :: t) := by rw [e45]; unfold isMin; simp
theorem Qkf {a b : Str} {K : Int → Heap → Prop} (ha : a.length ≤ 140737488355328) (hb : b.length ≤ 140737488355328) (na : a ≠ []) (nb : b ≠ []) (ma : isMin a = false) (mb : isMin b = false) (k : K (cmpD a b) H) : QbK C a b K H := by
 apply Qft
 unfold QdU
 cases a with
 | nil => exact absurd rfl na
 | cons c a =>
 cases b with
 | nil => exact absurd rfl nb
 | cons d b =>
 refine ⟨c, by omega, rfl, d, by omega, rfl, ?_⟩
 dsimp only
 rw [QgU (t := a), QgU (t := b), ma, mb]
 refine Qd rfl (Qd rfl ?_)
 unfold cmpD at k
 refine ift.of (fun h => ?_) (fun h => ?_)
 ·refine Qgh ?_
  rw [if_neg (by simp at h ⊢; omega)] at k; exact k
 ·rw [if_pos (by simp at h ⊢; omega)] at k
  exact Qi9 ha hb k
theorem QmZ {a b : Str} {K : Int → Heap → Prop} (ha : a.length ≤ 140737488355328) (hb : b.length ≤ 140737488355328) (na : numS a = true) (nb : numS b = true) (k : K (cmpB a b) H) : QbK C a b K H := by
 by_cases hn : isMin a = false ∧ isMin b = false
 ·rw [Qk1 hn.1 hn.2] at k
  exact Qkf ha hb (Qgi na) (Qgi nb) hn.1 hn.2 k
 apply Qft
 unfold QdU
 have nea := Qgi na
 have neb := Qgi nb
 cases a with
 | nil => exact absurd rfl nea
 | cons c a =>
 cases b with
 | nil => exact absurd rfl neb
 | cons d b =>
 refine ⟨c, by omega, rfl, d, by omega, rfl, ?_⟩
 dsimp only
 rw [QgU (t := a), QgU (t := b)]
 unfold cmpB at k
 cases ma : isMin (c :: a) with
 | false =>
  rw [ma] at k hn
  cases mb : isMin (d :: b) with
  | false => rw [mb] at hn; exact absurd ⟨rfl, rfl⟩ hn
  | true => rw [mb] at k; exact QE rfl (Qd rfl k)
 | true =>
  rw [ma] at k
  cases mb : isMin (d :: b) with
  | false => rw [mb] at k; exact QE rfl (QE rfl k)
  | true =>
   rw [mb] at k
   refine Qd rfl (QE rfl ?_)
   obtain ⟨h1, h2⟩ := QeA na ma
   obtain ⟨h3, h4⟩ := QeA nb mb
   refine ⟨H, Heap.le.refl _, by omega, by simp only [List.length_cons]; omega, by omega, b, ?_, by omega, by simp only [List.length_cons]; omega, by omega, a, ?_, ?_⟩
   ·rw [List.take_of_length_le (by omega)]; rfl
   ·rw [List.take_of_length_le (by omega)]; rfl
   ·simp only [List.length_cons] at ha hb
    exact Qkf (by omega) (by omega) h4 h2 h3 h1 ⟨Heap.le.refl _, k⟩
theorem QlD {l m : List V} {s t : Sl} {H : Heap} {K : Int → Heap → Prop} (hs : VRow H s l) (ht : VRow H t m) (hl : l.length ≤ 140737488355328) (hm : m.length ≤ 140737488355328)
 (ih : ∀ v ∈ l, ∀ w ∈ m, ∀ {x y : TV} {K : Int → Heap → Prop}, VIs H v x → VIs H w y → K (cmpV v w) H → Qal C x y K H) (k : K (cmpVs l m) H) : Qbc C s t K H := by
 apply QiB
 unfold Qf3
 have hsl := hs.len
 have htl := ht.len
 rw [hsl, htl]
 refine ⟨fun x H' => ∃ i : Nat, x = (i : Int) ∧ i ≤ l.length ∧ i ≤ m.length ∧ H = H' ∧ cmpVs l m = cmpVs (l.drop i) (m.drop i), fun x _ => l.length - x.toNat, ⟨0, rfl, Nat.zero_le _, Nat.zero_le _, rfl, rfl⟩, ?_⟩
 rintro x _ ⟨i, rfl, hi, hi2, rfl, hc⟩
 refine ift.of (fun h => ?_) (fun h => ?_)
 ·simp only [Bool.and_eq_true, decide_eq_true_eq] at h
  have h1 : i < l.length := by omega
  have h2 : i < m.length := by omega
  have m1 := List.getElem_mem h1
  have m2 := List.getElem_mem h2
  rw [List.drop_eq_getElem_cons h1, List.drop_eq_getElem_cons h2] at hc
  refine ⟨H, Heap.le.refl _, ?_⟩
  refine hs.ld (Heap.le.refl _) rfl h1 fun y hy => ?_
  refine ht.ld (Heap.le.refl _) rfl h2 fun z hz => ?_
  refine ih _ m1 _ m2 hy hz ⟨Heap.le.refl _, ?_⟩
  simp only [cmpVs] at hc
  refine ift.of (fun h => ?_) (fun h => ?_)
  ·rw [if_pos (by simpa using h)] at hc
   rw [hc] at k; exact k
  ·rw [if_neg (by simpa using h)] at hc
   rw [Qm (by omega) (by omega)]
   exact ⟨⟨i + 1, by omega, by omega, by omega, rfl, hc⟩, by first | omega | (dsimp only; omega)⟩
 ·simp only [Bool.and_eq_false_iff, decide_eq_false_iff_not] at h
  refine Qgh ?_
  have e : cmpVs l m = sgn l.length m.length := by
   rcases h with h | h
   ·have : i = l.length := by omega
    subst this
    rw [hc, List.drop_length, Qhd, List.length_drop]
    have := Qi5 0 ((m.length - l.length : Nat) : Int) l.length
    rw [← this]; congr 1 <;> omega
   ·have : i = m.length := by omega
    subst this
    rw [hc, List.drop_length, QjU, List.length_drop]
    have := Qi5 ((l.length - m.length : Nat) : Int) 0 m.length
    rw [← this]; congr 1 <;> omega
  rw [e] at k; exact k
theorem Qhb (v w : V) : cmpV v w = if v.k ≠ w.k then sgn v.k w.k else if v.k = 3 then cmpB v.s w.s else if v.k = 4 then vcmpS v.s w.s else if v.k = 5 then cmpVs v.l w.l else if v.k = 6 then (if vcmpS v.s w.s ≠ 0 then vcmpS v.s w.s else cmpVs v.l w.l) else sgn v.n w.n := by
 obtain ⟨k, n, s, l⟩ := v
 obtain ⟨k', n', s', l'⟩ := w
 simp only [cmpV, V.k, V.n, V.s, V.l]
 rfl
theorem QnK {v w : V} {x y : TV} {H : Heap} {K : Int → Heap → Prop} (hv : VIs H v x) (hw : VIs H w y) (hB : VB v) (hB2 : VB w) (hF : formV v = true) (hF2 : formV w = true) (k : K (cmpV v w) H) : Qal C x y K H := by
 refine V.rec_ (P := fun v => ∀ {w x y H} {K : Int → Heap → Prop}, VIs H v x → VIs H w y → VB v → VB w → formV v = true → formV w = true → K (cmpV v w) H → Qal C x y K H) (fun v ih => ?_) v hv hw hB hB2 hF hF2 k
 clear hv hw hB hB2 hF hF2 k
 intro w x y H K hv hw hB hB2 hF hF2 k
 apply Qal.gh
 apply Qjj
 unfold QgC
 intro b1 n1 b3 n3
 have hb3 : ((H.put b1 (.row (Qa.c x))).put b3 (.row (Qa.c y))) b3 = some (true, .row (Qa.c y)) := Heap.put_same ..
 have hne : b1 ≠ b3 := fun e => by rw [e, Heap.put_same] at n3; cases n3
 have hb1 : ((H.put b1 (.row (Qa.c x))).put b3 (.row (Qa.c y))) b1 = some (true, .row (Qa.c x)) := by rw [Heap.put_ne _ _ _ hne, Heap.put_same]
 have hle := (Heap.le_put n1 (g := .row (Qa.c x)) (m := true)).trans (Heap.le_put n3 (g := .row (Qa.c y)) (m := true))
 generalize (H.put b1 (.row (Qa.c x))).put b3 (.row (Qa.c y)) = H1 at *
 have k' : ∃ H0, Gh C H1 H0 ∧ K (cmpV v w) H0 := ⟨H, Gh.le hle, k⟩
 have hk1 := hB.k
 have hk2 := hB2.k
 rw [Qb5, Bool.and_eq_true] at hF hF2
 rw [Qhb] at k'
 refine bxK hb1 (bxK hb3 ?_)
 rw [hv.kind, hw.kind]
 refine ift.of (fun h => ?_) (fun h => ?_)
 ·refine bxK hb1 (bxK hb3 ?_)
  rw [hv.kind, hw.kind, Qm (by omega) (by omega), Qm (by omega) (by omega)]
  refine Qgh ?_
  rw [if_pos (by simpa using h)] at k'; exact k'
 have hkk : v.k = w.k := by simpa using h
 rw [if_neg (by simp [hkk])] at k'
 have hr1 := hv.row.le hle
 have hr2 := hw.row.le hle
 have hrows : ∀ {K : Int → Heap → Prop}, K (cmpVs v.l w.l) H1 → Qbc C x.L y.L K H1 := fun k => by
  refine QlD hr1 hr2 hB.l hB2.l (fun p hp q hq {x' y'} {K'} hx hy kk => ih p hp hx hy (hB.ls.mem hp) (hB2.ls.mem hq) (Qbe hp hF.2) (Qbe hq hF2.2) kk) k
 refine bxK hb1 ?_
 rw [hv.kind]
 refine ift.of (fun h => ?_) (fun h => ?_)
 ·have h : v.k = 3 := by simpa using h
  rw [if_pos h] at k'
  refine bxS hb1 (bxS hb3 ?_)
  rw [hv.txt, hw.txt]
  exact QmZ hB.s hB2.s (Qho hF.1 h) (Qho hF2.1 (by omega)) k'
 rw [if_neg (by simpa using h)] at k'
 refine ift.of (fun h => ?_) (fun h => ?_)
 ·have h : v.k = 4 := by simpa using h
  rw [if_pos h] at k'
  refine bxS hb1 (bxS hb3 ?_)
  rw [hv.txt, hw.txt]
  exact Qi9 hB.s hB2.s k'
 rw [if_neg (by simpa using h)] at k'
 refine ift.of (fun h => ?_) (fun h => ?_)
 ·have h : v.k = 5 := by simpa using h
  rw [if_pos h] at k'
  exact bxL hb1 (bxL hb3 (hrows k'))
 rw [if_neg (by simpa using h)] at k'
 refine ift.of (fun h => ?_) (fun h => ?_)
 ·have h : v.k = 6 := by simpa using h
  rw [if_pos h] at k'
  refine bxS hb1 (bxS hb3 ?_)
  rw [hv.txt, hw.txt]
  refine Qi9 hB.s hB2.s ?_
  refine ift.of (fun h => ?_) (fun h => ?_)
  ·rw [if_pos (by simpa using h)] at k'; exact k'
  ·rw [if_neg (by simpa using h)] at k'
   exact bxL hb1 (bxL hb3 (hrows k'))
 rw [if_neg (by simpa using h)] at k'
 refine bxN hb1 (bxN hb3 ?_)
 rw [hv.num, hw.num]
 exact Qgh k'
theorem Qm7 {a b : Bool} {K : Int → Heap → Prop} (k : K (lastB a b) H) : Qed C a b K H := by
 apply QiA
 unfold Qf2
 unfold lastB at k
 refine ift.of (fun h => ?_) (fun h => ?_)
 ·rw [if_pos (by simpa using h)] at k; exact k
 rw [if_neg (by simpa using h)] at k
 refine ift.of (fun h => ?_) (fun h => ?_)
 ·rw [if_pos h] at k; exact k
 ·rw [if_neg (by rw [h]; decide)] at k; exact k
theorem QiQ (v : V) : ((checkV v : Int) == 0) = mayV v := by unfold mayV; rw [Bool.eq_iff_iff]; simp
theorem Qbr {v : V} (h : mayV v = true) : formV v = true := ((Qma v).1 h).2.1
theorem Qnd {l : List V} {v : V} (h : v ∈ l) (hv : mayV v = false) : mayR l = false := by unfold mayR; rw [List.all_eq_false]; exact ⟨v, h, by simp [hv]⟩
theorem Qke {l : List V} {t : Sl} {H : Heap} {K : Bool → Heap → Prop} (ht : VRow H t l) (hl : l.length ≤ 140737488355328) (hB : VBs l) (hs : ∀ v ∈ l, vsize v ≤ 4611686018427387904) (k : K (mayR l) H) : QbC C t K H := by
 apply Qji
 unfold QgB
 rw [ht.len]
 refine ⟨fun x H' => ∃ i : Nat, x = (i : Int) ∧ i ≤ l.length ∧ H = H' ∧ (l.take i).all mayV = true, fun x _ => l.length - x.toNat, ⟨0, rfl, Nat.zero_le _, rfl, rfl⟩, ?_⟩
 rintro x _ ⟨i, rfl, hi, rfl, ha⟩
 refine ift.of (fun h => ?_) (fun h => ?_)
 ·have hlt : i < l.length := by have := of_decide_eq_true h; omega
  have hm := List.getElem_mem hlt
  refine ht.ld (Heap.le.refl _) rfl hlt fun y hy => ?_
  refine QeQ hy (hB.mem hm) (hs _ hm) ?_
  rw [bne, QiQ]
  refine ift.of (fun h => ?_) (fun h => ?_)
  ·rw [Qnd hm (by simpa using h)] at k; exact k
  ·rw [Qm (by omega) (by omega)]
   refine ⟨⟨i + 1, by omega, by omega, rfl, ?_⟩, by first | omega | (dsimp only; omega)⟩
   rw [QgS hlt, ha]; simpa using h
 ·have hie : i = l.length := by have := of_decide_eq_false h; omega
  rw [hie, List.take_length] at ha
  unfold mayR at k
  rw [ha] at k; exact k
theorem QgR {l m : List V} {s t : Sl} {H : Heap} {K : Int → Heap → Prop} (hs : VRow H s l) (ht : VRow H t m) (hl : l.length ≤ 140737488355328) (hm : m.length ≤ 140737488355328) (hB : VBs l) (hB2 : VBs m) (hz : ∀ v ∈ l, vsize v ≤ 4611686018427387904) (hz2 : ∀ v ∈ m, vsize v ≤ 4611686018427387904) (k : K (cmpR l m) H) : Qcb C s t K H := by
 apply QgK
 unfold Qd6
 refine Qke hs hl hB hz (Qke ht hm hB2 hz2 ?_)
 unfold cmpR at k
 refine ift.of (fun h => ?_) (fun h => ?_)
 ·refine Qm7 ?_
  rw [if_neg (by intro hh; rw [hh.1, hh.2] at h; cases h)] at k; exact k
 ·have h1 : mayR l = true ∧ mayR m = true := by simpa using h
  rw [if_pos h1] at k
  refine QlD hs ht hl hm (fun p hp q hq {x' y'} {K'} hx hy kk => ?_) k
  have e1 := List.all_eq_true.1 h1.1 p hp
  have e2 := List.all_eq_true.1 h1.2 q hq
  exact QnK hx hy (hB.mem hp) (hB2.mem hq) (Qbr e1) (Qbr e2) kk
theorem Qil : ∀ {l m : List V}, sameVs l m = true → l.length = m.length
 | [], [], _ => rfl
 | [], _ :: _, h => by simp [sameVs] at h
 | _ :: _, [], h => by simp [sameVs] at h
 | v :: l, w :: m, h => by
  simp only [sameVs, Bool.and_eq_true] at h
  have := Qil h.2
  simp [this]
theorem QgZ {l m : List V} {s t : Sl} {H : Heap} {K : Bool → Heap → Prop} (hs : VRow H s l) (ht : VRow H t m) (hl : l.length ≤ 140737488355328)
 (ih : ∀ v ∈ l, ∀ w, ∀ {x y : TV} {K : Bool → Heap → Prop}, VIs H v x → VIs H w y → w ∈ m → K (sameV v w) H → QT C x y K H) (k : K (sameVs l m) H) : QU C s t K H := by
 apply QgL
 unfold Qd7
 rw [hs.len, ht.len]
 by_cases hlm : l.length = m.length
 rotate_left
 ·refine QE (by simp; omega) ?_
  cases hh : sameVs l m with
  | true => exact absurd (Qil hh) hlm
  | false => rw [hh] at k; exact k
 refine Qd (by simp; omega) ?_
 refine ⟨fun x H' => ∃ i : Nat, x = (i : Int) ∧ i ≤ l.length ∧ H = H' ∧ sameVs l m = sameVs (l.drop i) (m.drop i), fun x _ => l.length - x.toNat, ⟨0, rfl, Nat.zero_le _, rfl, rfl⟩, ?_⟩
 rintro x _ ⟨i, rfl, hi, rfl, ha⟩
 refine ift.of (fun h => ?_) (fun h => ?_)
 ·have h1 : i < l.length := by have := of_decide_eq_true h; omega
  have h2 : i < m.length := by omega
  have m1 := List.getElem_mem h1
  have m2 := List.getElem_mem h2
  rw [List.drop_eq_getElem_cons h1, List.drop_eq_getElem_cons h2] at ha
  simp only [sameVs] at ha
  refine ⟨H, Heap.le.refl _, ?_⟩
  refine hs.ld (Heap.le.refl _) rfl h1 fun y hy => ?_
  refine ht.ld (Heap.le.refl _) rfl h2 fun z hz => ?_
  refine ih _ m1 _ hy hz m2 ⟨Heap.le.refl _, ?_⟩
  refine ift.of (fun h => ?_) (fun h => ?_)
  ·have h : sameV l[i] m[i] = false := by simpa using h
   rw [ha, h] at k; exact k
  ·have h : sameV l[i] m[i] = true := by simpa using h
   rw [h, Bool.true_and] at ha
   rw [Qm (by omega) (by omega)]
   exact ⟨⟨i + 1, by omega, by omega, rfl, ha⟩, by first | omega | (dsimp only; omega)⟩
 ·have hie : i = l.length := by have := of_decide_eq_false h; omega
  rw [hie, List.drop_length, hlm, List.drop_length] at ha
  rw [ha] at k; exact k
theorem QlF (v w : V) : sameV v w = (v.k == w.k && v.n == w.n && decide (v.s = w.s) && sameVs v.l w.l) := by
 obtain ⟨k, n, s, l⟩ := v
 obtain ⟨k', n', s', l'⟩ := w
 simp only [sameV, V.k, V.n, V.s, V.l]
 rfl
theorem QkU {v w : V} {x y : TV} {H : Heap} {K : Bool → Heap → Prop} (hv : VIs H v x) (hw : VIs H w y) (hB : VB v) (k : K (sameV v w) H) : QT C x y K H := by
 refine V.rec_ (P := fun v => ∀ {w x y H} {K : Bool → Heap → Prop}, VIs H v x → VIs H w y → VB v → K (sameV v w) H → QT C x y K H) (fun v ih => ?_) v hv hw hB k
 clear hv hw hB k
 intro w x y H K hv hw hB k
 apply QT.gh
 apply Qiv
 unfold QfX
 intro b1 n1 b3 n3
 have hb3 : ((H.put b1 (.row (Qa.c x))).put b3 (.row (Qa.c y))) b3 = some (true, .row (Qa.c y)) := Heap.put_same ..
 have hne : b1 ≠ b3 := fun e => by rw [e, Heap.put_same] at n3; cases n3
 have hb1 : ((H.put b1 (.row (Qa.c x))).put b3 (.row (Qa.c y))) b1 = some (true, .row (Qa.c x)) := by rw [Heap.put_ne _ _ _ hne, Heap.put_same]
 have hle := (Heap.le_put n1 (g := .row (Qa.c x)) (m := true)).trans (Heap.le_put n3 (g := .row (Qa.c y)) (m := true))
 generalize (H.put b1 (.row (Qa.c x))).put b3 (.row (Qa.c y)) = H1 at *
 have k' : ∃ H0, Gh C H1 H0 ∧ K (sameV v w) H0 := ⟨H, Gh.le hle, k⟩
 rw [QlF] at k'
 refine bxK hb1 (bxK hb3 ?_)
 rw [hv.kind, hw.kind]
 refine ⟨fun b H' => H1 = H' ∧ b = (v.k == w.k && v.n == w.n), ?_, ?_⟩
 ·refine ift.of (fun h => ?_) (fun h => ⟨rfl, by rw [h]; rfl⟩)
  refine bxN hb1 (bxN hb3 ⟨rfl, ?_⟩)
  rw [h, hv.num, hw.num]; rfl
 rintro _ _ ⟨rfl, rfl⟩
 refine ⟨fun b H' => H1 = H' ∧ b = (v.k == w.k && v.n == w.n && decide (v.s = w.s)), ?_, ?_⟩
 ·refine ift.of (fun h => ?_) (fun h => ⟨rfl, by rw [h]; rfl⟩)
  refine bxS hb1 (bxS hb3 ⟨rfl, ?_⟩)
  rw [h, hv.txt, hw.txt, Bool.true_and, Bool.eq_iff_iff]; simp
 rintro _ _ ⟨rfl, rfl⟩
 refine ⟨fun b H' => H1 = H' ∧ b = (v.k == w.k && v.n == w.n && decide (v.s = w.s) && sameVs v.l w.l), ?_, ?_⟩
 ·refine ift.of (fun h => ?_) (fun h => ⟨rfl, by rw [h]; rfl⟩)
  refine bxL hb1 (bxL hb3 ?_)
  refine QgZ (hv.row.le hle) (hw.row.le hle) hB.l (fun p hp q {x' y'} {K'} hx hy _ kk => ih p hp hx hy (hB.ls.mem hp) kk) ⟨rfl, ?_⟩
  rw [h]; rfl
 rintro _ _ ⟨rfl, rfl⟩
 exact k'
theorem Qf9 {l m : List V} {s t : Sl} {H : Heap} {K : Bool → Heap → Prop} (hs : VRow H s l) (ht : VRow H t m) (hl : l.length ≤ 140737488355328) (hB : VBs l) (k : K (sameVs l m) H) : QU C s t K H :=
 QgZ hs ht hl (fun p hp q {x y} {K} hx hy _ kk => QkU hx hy (hB.mem hp) kk) k
end
end
section
open Go
section
variable {H : Type} {enc : TypeId × Value → H} {P : Program} {W : World}
/-- a slice that came in: its elements' cells and data -/
theorem QeC {t e : TypeId} {n : Nat} {cs : List Value} {x : DataW H × List MemPlace} (ht : P.underlying t = some (.slice e)) (hz0 : 0 < P.cellsOf e) (h : DataW.trod enc P W 0 (fun _ => true) true n t cs = some x) :
 ∃ (s : Sl) (css : List (List Value)) (ys : List (DataW H × List MemPlace)) (m : Nat), m < n ∧ cs = [slv s] ∧ s.len ≤ s.cap ∧ css.length = s.len ∧ ys.length = s.len ∧ rdsl (heapOf W) s css.flatten ∧ sizeDs (ys.map (·.1)) + 1 ≤ sizeD x.1 ∧
  ∀ (i : Nat) (c : List Value) (y : DataW H × List MemPlace), css[i]? = some c → ys[i]? = some y → c.length = P.cellsOf e ∧ DataW.trod enc P W 0 (fun _ => true) true m e c = some y := by
 rcases DataW.trod_slice ht h with ⟨h0, hx⟩ | ⟨a, len, cap, elems, rest, m, rfl, hcs, hx, hb, hl, hm, hlen, hel, hsp, hns⟩
 ·have : 0 < n := by cases n with
   | zero => simp [DataW.trod] at h
   | succ n => omega
  exact ⟨Sl.nil, [], [], 0, this, h0, Nat.le_refl _, rfl, rfl, .inl rfl, by rw [hx]; simp [sizeD, sizeDs], fun i c y hc => by simp at hc⟩
 ·have hall : ∀ i, i < len → ∃ c, W.cells? 0 (a.add (i * P.cellsOf e)) (P.cellsOf e) = some c ∧ ∀ y, elems[i]? = some y → DataW.trod enc P W 0 (fun _ => true) true m e c = some y := by
   intro i hi
   have h1 := hel i hi
   have h2 : i < elems.length := by omega
   rw [List.getElem?_eq_getElem h2] at h1
   rw [Option.bind_eq_some_iff] at h1
   obtain ⟨c, hc, ht⟩ := h1
   exact ⟨c, hc, fun y hy => by rw [List.getElem?_eq_getElem h2] at hy; injection hy with hy; subst hy; exact ht⟩
  obtain ⟨css, hcl, hcss⟩ := listOf hall
  obtain ⟨b, o, sp⟩ := a
  refine ⟨⟨some (b, o), len, cap, sp⟩, css, elems, m, Nat.lt_succ_self _, by rw [hcs]; rfl, hl, hcl, hlen, ?_, by rw [hx]; simp only [sizeD]; omega, fun i c y hc hy => ?_⟩
  ·rcases Nat.eq_zero_or_pos len with h0 | h0
   ·left
    have : css = [] := List.length_eq_zero_iff.1 (by omega)
    simp [this]
   ·obtain ⟨c0, hc0, _⟩ := hall 0 h0
    obtain ⟨_, hl0, hcell0⟩ := World.cells?_some hc0
    have hsp0 : sp = none := by
     have h1 := hcell0 0 hz0
     rw [List.getElem?_eq_getElem (by omega)] at h1
     have := QjT h1
     simpa [Addr.add] using this
    subst hsp0
    right
    refine ⟨rfl, (b, o), rfl, Qkt (z := P.cellsOf e) (fun c hc => ?_) fun i c hc => ?_⟩
    ·obtain ⟨i, hi, rfl⟩ := List.getElem_of_mem hc
     obtain ⟨h1, _⟩ := hcss i _ (List.getElem?_eq_getElem hi)
     exact (World.cells?_some h1).2.1
    ·obtain ⟨h1, _⟩ := hcss i c hc
     obtain ⟨_, hcl1, hcell⟩ := World.cells?_some h1
     refine QfS fun j v hj => Qlx ?_
     have hjl : j < P.cellsOf e := by rw [← hcl1]; exact (List.getElem?_eq_some_iff.1 hj).1
     have h2 := hcell j hjl
     rw [hj] at h2
     rw [← h2]
     have e1 : (⟨b, o, none⟩ : Addr) = adv (b, o) := rfl
     rw [e1, Qb9, Qb9]
  ·obtain ⟨h1, h2⟩ := hcss i c hc
   exact ⟨(World.cells?_some h1).2.1, h2 y hy⟩
/-- the type of values -/
structure ValT (P : Program) (t tl : TypeId) : Prop where
 st : ∃ fs : Array Field, P.underlying t = some (.struct fs) ∧ fs.size = 4 ∧ (∃ f tk, fs[0]? = some f ∧ f.type = tk ∧ f.offset = 0 ∧ P.underlying tk = some (.int .u8) ∧ P.cellsOf tk = 1) ∧ (∃ f tk, fs[1]? = some f ∧ f.type = tk ∧ f.offset = 1 ∧ P.underlying tk = some (.int .i64) ∧ P.cellsOf tk = 1) ∧ (∃ f tk, fs[2]? = some f ∧ f.type = tk ∧ f.offset = 2 ∧ P.underlying tk = some .string ∧ P.cellsOf tk = 1) ∧ (∃ f, fs[3]? = some f ∧ f.type = tl ∧ f.offset = 3 ∧ P.cellsOf tl = 1)
 cells : P.cellsOf t = 4
 sl : P.underlying tl = some (.slice t)
mutual
def vbulk : V → Nat
 | .mk k n s l => vbulks l + s.length + 1
def vbulks : List V → Nat
 | [] => 0
 | v :: l => vbulk v + vbulks l
end
theorem QkD (v : V) : vbulk v = vbulks v.l + v.s.length + 1 := by obtain ⟨k, n, s, l⟩ := v; rfl
theorem Qio : ∀ l : List V, l.length ≤ vbulks l
 | [] => by simp [vbulks]
 | v :: l => by have := Qio l; have := QkD v; simp only [vbulks, List.length_cons]; omega
theorem Qkv {t tl : TypeId} (hT : ValT P t tl) {css : List (List Value)} {ys : List (DataW H × List MemPlace)} {m : Nat} {s : Sl} (hl : css.length = s.len) (hy : ys.length = s.len) (hr : rdsl (heapOf W) s css.flatten)
 (ih : ∀ (i : Nat) (c : List Value) (y : DataW H × List MemPlace), css[i]? = some c → ys[i]? = some y → ∃ (v : V) (x : TV), c = Qa.c x ∧ VIs (heapOf W) v x ∧ VB v ∧ vbulk v ≤ sizeD y.1) :
 ∃ l : List V, VRow (heapOf W) s l ∧ VBs l ∧ vbulks l ≤ sizeDs (ys.map (·.1)) := by
 have key : ∀ (css : List (List Value)) (ys : List (DataW H × List MemPlace)), css.length = ys.length → (∀ (i : Nat) (c : List Value) (y : DataW H × List MemPlace), css[i]? = some c → ys[i]? = some y → ∃ (v : V) (x : TV), c = Qa.c x ∧ VIs (heapOf W) v x ∧ VB v ∧ vbulk v ≤ sizeD y.1) →
  ∃ (l : List V) (xs : List TV), css.flatten = xs.flatMap Qa.c ∧ css.length = xs.length ∧ VsAre (heapOf W) l xs ∧ VBs l ∧ vbulks l ≤ sizeDs (ys.map (·.1)) := by
  intro css
  induction css with
  | nil => intro ys h _; exact ⟨[], [], rfl, rfl, trivial, trivial, by simp [vbulks]⟩
  | cons c css ihc =>
   intro ys h hh
   cases ys with
   | nil => simp at h
   | cons y ys =>
    obtain ⟨v, x, h1, h2, h3, h4⟩ := hh 0 c y rfl rfl
    obtain ⟨l, xs, g1, g2, g3, g4, g5⟩ := ihc ys (by simpa using h) fun i c' y' a b => hh (i + 1) c' y' (by simpa using a) (by simpa using b)
    refine ⟨v :: l, x :: xs, by rw [List.flatten_cons, List.flatMap_cons, g1, h1], by simp [g2], ⟨h2, g3⟩, ⟨h3, g4⟩, ?_⟩
    simp only [vbulks, List.map_cons, sizeDs]; omega
 obtain ⟨l, xs, g1, g2, g3, g4, g5⟩ := key css ys (by omega) ih
 exact ⟨l, ⟨xs, by rw [← g1]; exact hr, by omega, g3⟩, g4, g5⟩
theorem QnV {t tl : TypeId} (hT : ValT P t tl) : ∀ (n : Nat) {cs : List Value} {x : DataW H × List MemPlace}, DataW.trod enc P W 0 (fun _ => true) true n t cs = some x → sizeD x.1 ≤ 1000000000 → ∃ (v : V) (y : TV), cs = Qa.c y ∧ VIs (heapOf W) v y ∧ VB v ∧ vbulk v ≤ sizeD x.1 := by
 intro n
 induction n using Nat.strongRecOn with
 | _ n ih =>
 intro cs x h hsz
 obtain ⟨fs, hu, hfs, ⟨f0, t0, a0, b0, c0, d0, e0⟩, ⟨f1, t1, a1, b1, c1, d1, e1⟩, ⟨f2, t2, a2, b2, c2, d2, e2⟩, ⟨f3, a3, b3, c3, e3⟩⟩ := hT.st
 obtain ⟨xs, m, rfl, hx, hl, hxl, hf⟩ := DataW.trod_struct hu h
 rw [hT.cells] at hl
 rw [hfs] at hxl
 match cs, hl with
 | [q0, q1, q2, q3], _ =>
 match xs, hxl with
 | [y0, y1, y2, y3], _ =>
 have g0 := hf 0 f0 a0
 have g1 := hf 1 f1 a1
 have g2 := hf 2 f2 a2
 have g3 := hf 3 f3 a3
 rw [b0, c0, e0] at g0
 rw [b1, c1, e1] at g1
 rw [b2, c2, e2] at g2
 rw [b3, c3, e3] at g3
 simp at g0 g1 g2 g3
 obtain ⟨n0, k0, k1, k2⟩ := DataW.trod_int d0 g0
 obtain ⟨n1, l0, l1, l2⟩ := DataW.trod_int d1 g1
 obtain ⟨s2, m0, m1, m2⟩ := DataW.trod_string d2 g2
 obtain ⟨s, css, ys, m', hm', p0, p1, p2, p3, p4, p5, p6⟩ := QeC hT.sl (by rw [hT.cells]; omega) g3
 have hsx : sizeD x.1 = sizeD y0.1 + (sizeD y1.1 + (sizeD y2.1 + (sizeD y3.1 + 0))) + 1 := by rw [hx]; simp [sizeD, sizeDs]
 have h0 := QhG y0.1
 have h1 := QhG y1.1
 have h2 : sizeD y2.1 = s2.data.toList.length + 1 := by rw [m1]; simp [sizeD]
 obtain ⟨l, r1, r2, r3⟩ := Qkv (H := H) hT p2 p3 p4 (m := m') fun i c y hc hy => by
  obtain ⟨_, h5⟩ := p6 i c y hc hy
  have h6 := Qdp (List.mem_map_of_mem (f := (·.1)) (List.mem_of_getElem? hy))
  exact ih m' (by omega) h5 (by omega)
 have hvl := Qio l
 refine ⟨.mk n0 n1 s2.data.toList l, ⟨n0, n1, s2.data.toList, s⟩, ?_, Qds.2 ⟨rfl, rfl, rfl, r1⟩, ⟨?_, ?_, by omega, by omega, r2⟩, ?_⟩
 ·injection k0 with k0
  injection l0 with l0
  injection m0 with m0
  injection p0 with p0
  subst k0; subst l0; subst m0; subst p0
  simp [Qa.c, sv]
 ·simpa [Lit.wf, IntKind.min, IntKind.max, IntKind.signed, IntKind.bits] using k2
 ·simpa [Lit.wf, IntKind.min, IntKind.max, IntKind.signed, IntKind.bits] using l2
 ·rw [QkD]
  simp only [V.l, V.s]
  omega
end
end
section
open Go
section
variable {H : Type} {enc : TypeId × Value → H} {P : Program} {W : World}
end
end
section
open Go Go.Proofs
/-- a list of rows -/
def VRows (H : Heap) (s : Sl) (ls : List (List V)) : Prop := ∃ xs : List Sl, rdsl H s (xs.map slv) ∧ s.len = xs.length ∧ xs.length = ls.length ∧ ∀ (i : Nat) (x : Sl) (l : List V), xs[i]? = some x → ls[i]? = some l → VRow H x l
theorem VRows.le {A B : Heap} {s : Sl} {ls : List (List V)} (h : VRows A s ls) (hle : A.le B) : VRows B s ls := by
 obtain ⟨xs, h1, h2, h3, h4⟩ := h
 exact ⟨xs, QaY hle h1, h2, h3, fun i x l hx hl => (h4 i x l hx hl).le hle⟩
theorem VRows.len {H : Heap} {s : Sl} {ls : List (List V)} (h : VRows H s ls) : s.len = ls.length := by
 obtain ⟨xs, h1, h2, h3, h4⟩ := h; omega
theorem VRows.ld {A H : Heap} {s : Sl} {ls : List (List V)} {i : Nat} {x : Int} {K : Sl → Prop} (h : VRows A s ls) (hle : A.le H) (hx : x = i) (hi : i < ls.length) (k : ∀ t, VRow A t ls[i] → K t) : ixa s x fun p => ldL H (p.1, p.2 + x.toNat * 1) K := by
 obtain ⟨xs, h1, h2, h3, h4⟩ := h
 subst hx
 rw [Int.toNat_natCast, Nat.mul_one]
 have hi2 : i < xs.length := by omega
 refine Qic h1 (by omega) (by omega) (fun e => by have := congrArg List.length e; simp at this; rw [this] at hi2; simp at hi2) fun p hp hr => ?_
 refine ⟨xs[i], QnT hle (Qci hr i _ (by simp [hi2])), k _ (h4 i _ _ (List.getElem?_eq_getElem hi2) (List.getElem?_eq_getElem hi))⟩
section
variable {H : Type} {enc : TypeId × Value → H} {P : Program} {W : World}
end
end
section
open Go Go.Proofs
theorem QlN (a b : UInt8) (s t : Str) : slt (a :: s) (b :: t) = (decide (a < b) || (decide (a = b) && slt s t)) := by
 simp only [slt, Op.bytesLess]
 by_cases h : a < b
 ·simp [h]
 ·by_cases h2 : a = b
  ·subst h2; simp [h]
  ·simp [h, h2]
theorem QeB (a : Int) : sgn a a = 0 := by unfold sgn; rw [if_neg (by omega), if_neg (by omega)]
theorem QlI (a b : Int) : -1 ≤ sgn a b ∧ sgn a b ≤ 1 := by unfold sgn; (split; · omega); (split <;> omega)
theorem QhF {a b : Int} : sgn a b < 0 ↔ a < b := by unfold sgn; (split; · omega); (split <;> omega)
theorem Qap {a b : Int} : sgn a b = 0 ↔ a = b := by unfold sgn; (split; · omega); (split <;> omega)
theorem vslt : ∀ s t : Str, slt s t = decide (vcmpS s t < 0) ∧ (vcmpS s t = 0 ↔ s = t) ∧ -1 ≤ vcmpS s t ∧ vcmpS s t ≤ 1
 | [], [] => ⟨rfl, by simp [vcmpS], by simp [vcmpS], by simp [vcmpS]⟩
 | [], b :: t => ⟨rfl, by simp [vcmpS], by simp [vcmpS], by simp [vcmpS]⟩
 | a :: s, [] => ⟨rfl, by simp [vcmpS], by simp [vcmpS], by simp [vcmpS]⟩
 | a :: s, b :: t => by
  obtain ⟨h1, h2, h3, h4⟩ := vslt s t
  rw [QlN, h1]
  simp only [vcmpS]
  by_cases he : a = b
  ·subst he
   have : ¬ a < a := fun h => Nat.lt_irrefl _ h
   refine ⟨by simp [this], ?_, by rw [if_pos rfl]; exact h3, by rw [if_pos rfl]; exact h4⟩
   rw [if_pos rfl, h2]; simp
  ·have hne : ¬ (a.toNat : Int) = b.toNat := fun h => he (UInt8.toNat_inj.1 (by omega))
   have hz : ¬ sgn a.toNat b.toNat = 0 := fun h => hne (Qap.1 h)
   refine ⟨?_, ?_, ?_⟩
   ·simp only [he, if_false, decide_false, Bool.false_and, Bool.or_false]
    rw [decide_eq_decide, QhF, UInt8.lt_iff_toNat_lt]; omega
   ·simp only [he, if_false, List.cons.injEq, false_and]; exact ⟨fun h => hz h, fun h => h.elim⟩
   ·rw [if_neg he]; exact QlI _ _
section
variable {C : Ctx} {H : Heap}
theorem Qmg {a b : Int} {K : Int → Heap → Prop} (k : K (sgn a b) H) : Qa7 C a b K H := by
 have nan : ∀ {a : Int} {K : Bool → Heap → Prop}, K false H → QaN C a K H := fun {a K} k => by
  apply Qfk
  unfold QcG
  simpa using k
 apply QeE
 unfold QbY
 refine nan (nan (Qd rfl (Qd rfl ?_)))
 unfold sgn at k
 refine ift.of (fun h => ?_) (fun h => ?_)
 ·rw [if_pos (of_decide_eq_true h)] at k; exact k
 rw [if_neg (of_decide_eq_false h)] at k
 refine ift.of (fun h => ?_) (fun h => ?_)
 ·rw [if_pos (show b < a from of_decide_eq_true h)] at k; exact k
 ·rw [if_neg (show ¬ b < a from of_decide_eq_false h)] at k; exact k
theorem Qlo {a b : Int} {K : Int → Heap → Prop} (k : K (sgn a b) H) : Qa6 C a b K H := by
 have nan : ∀ {a : Int} {K : Bool → Heap → Prop}, K false H → QaM C a K H := fun {a K} k => by
  apply Qfj
  unfold QcF
  simpa using k
 apply QeD
 unfold QbX
 refine nan (nan (Qd rfl (Qd rfl ?_)))
 unfold sgn at k
 refine ift.of (fun h => ?_) (fun h => ?_)
 ·rw [if_pos (of_decide_eq_true h)] at k; exact k
 rw [if_neg (of_decide_eq_false h)] at k
 refine ift.of (fun h => ?_) (fun h => ?_)
 ·rw [if_pos (show b < a from of_decide_eq_true h)] at k; exact k
 ·rw [if_neg (show ¬ b < a from of_decide_eq_false h)] at k; exact k
theorem Qmh {a b : Int} {K : Int → Heap → Prop} (k : K (sgn a b) H) : QbA C a b K H := by
 have nan : ∀ {a : Int} {K : Bool → Heap → Prop}, K false H → Qbm C a K H := fun {a K} k => by
  apply QgF
  unfold Qd1
  simpa using k
 apply Qfi
 unfold QcE
 refine nan (nan (Qd rfl (Qd rfl ?_)))
 unfold sgn at k
 refine ift.of (fun h => ?_) (fun h => ?_)
 ·rw [if_pos (of_decide_eq_true h)] at k; exact k
 rw [if_neg (of_decide_eq_false h)] at k
 refine ift.of (fun h => ?_) (fun h => ?_)
 ·rw [if_pos (show b < a from of_decide_eq_true h)] at k; exact k
 ·rw [if_neg (show ¬ b < a from of_decide_eq_false h)] at k; exact k
theorem Qi2 {a b : Str} {K : Int → Heap → Prop} (k : K (vcmpS a b) H) : QL C a b K H := by
 have nan : ∀ {a : Str} {K : Bool → Heap → Prop}, K false H → Qax C a K H := fun {a K} k => by
  apply Qe5
  unfold Qcl
  simpa using k
 apply Qea
 unfold QbP
 obtain ⟨h1, h2, h3, h4⟩ := vslt a b
 refine nan (nan (Qd rfl (Qd rfl ?_)))
 refine ift.of (fun h => ?_) (fun h => ?_)
 ·rw [h1] at h
  have := of_decide_eq_true h
  rw [show vcmpS a b = -1 by omega] at k; exact k
 have hn : ¬ vcmpS a b < 0 := by rw [h1] at h; exact of_decide_eq_false h
 rw [h, Bool.false_or]
 refine ift.of (fun h => ?_) (fun h => ?_)
 ·have : ¬ a = b := by simpa using h
  have : ¬ vcmpS a b = 0 := fun e => this (h2.1 e)
  rw [show vcmpS a b = 1 by omega] at k; exact k
 ·have : a = b := by simpa using h
  rw [h2.2 this] at k; exact k
theorem QmR {b : Nat} {m : Bool} {l : List Int} {n : Nat} {K : Int → Heap → Prop} (hb : H b = some (m, .row (l.map fun x => Value.int .i64 x))) (hn : n = l.length) (hl : l.length ≤ 1000) (k : K ((l.find? fun x => x != 0).getD 0) H) : Qct C (Sl.of (some (b, 0)) n n) K H := by
 subst hn
 apply Qis
 unfold QfU
 refine ⟨fun x H' => ∃ i : Nat, x = (i : Int) ∧ i ≤ l.length ∧ H = H' ∧ (l.find? fun x => x != 0) = ((l.drop i).find? fun x => x != 0), fun x _ => l.length - x.toNat, ⟨0, rfl, Nat.zero_le _, rfl, rfl⟩, ?_⟩
 rintro x _ ⟨i, rfl, hi, rfl, hc⟩
 refine ift.of (fun h => ?_) (fun h => ?_)
 ·have h1 : i < l.length := by have := of_decide_eq_true h; simp only [Sl.of] at this; omega
  refine ⟨(b, 0), rfl, rfl, by omega, of_decide_eq_true h, l[i], ?_, ?_⟩
  ·simp [rd, hb, GO.cells?, h1]
  rw [List.drop_eq_getElem_cons h1, List.find?_cons] at hc
  refine ift.of (fun h => ?_) (fun h => ?_)
  ·rw [h] at hc
   rw [hc] at k; exact k
  ·rw [h] at hc
   rw [Qm (by omega) (by omega)]
   exact ⟨⟨i + 1, by omega, by omega, rfl, hc⟩, by first | omega | (dsimp only; omega)⟩
 ·have : i = l.length := by have := of_decide_eq_false h; simp only [Sl.of] at this; omega
  subst this
  rw [hc, List.drop_length] at k; exact k
theorem Qb7 {s p : Str} {K : Bool → Heap → Prop} (k : K (p.isPrefixOf s) H) : Qam C s p K H := by
 apply QeG
 unfold Qb0
 exact Qeg k
theorem pre45 (s : Str) : ([45] : Str).isPrefixOf s = isMin s := by
 cases s with
 | nil => rfl
 | cons c s =>
  simp only [List.isPrefixOf, isMin, List.head?_cons, Option.some.injEq, Bool.and_true]
  by_cases h : c = 45
  ·subst h; rfl
  ·have h2 : ¬ (45 : UInt8) = c := fun e => h e.symm
   simp [h, h2]
theorem or2 (a b : Int) : (([a, b].find? fun x => x != 0).getD 0) = if a ≠ 0 then a else b := by
 by_cases h : a = 0
 ·subst h
  by_cases hb : b = 0
  ·subst hb; rfl
  ·simp [hb]
 ·simp [h]
theorem or3 (a b c : Int) : (([a, b, c].find? fun x => x != 0).getD 0) = if a ≠ 0 then a else if b ≠ 0 then b else c := by
 by_cases h : a = 0
 ·subst h
  have := or2 b c
  simpa using this
 ·simp [h]
theorem QjA {a b : Str} {K : Int → Heap → Prop} (ma : isMin a = false) (mb : isMin b = false) (k : K (cmpD a b) H) : Q5 C a b K H := by
 apply Q5.gh
 apply Qfx
 unfold QdV
 refine Qb7 (Qb7 ?_)
 rw [pre45, pre45, ma, mb]
 refine Qd rfl (Qd rfl (Qd rfl ?_))
 refine Qmh (Qi2 ?_)
 intro c hc
 refine QmR (l := [sgn a.length b.length, vcmpS a b]) (Heap.put_same ..) rfl (by simp) ?_
 refine ⟨H, Gh.le (Heap.le_put hc), ?_⟩
 rw [or2]
 unfold cmpD at k
 by_cases h : a.length = b.length
 ·rw [if_pos h] at k
  rw [if_neg (by rw [h, QeB]; simp)]; exact k
 ·rw [if_neg h] at k
  rw [if_pos (fun e => h (by have := Qap.1 e; omega))]; exact k
theorem Qmf {a b : Str} {K : Int → Heap → Prop} (na : numS a = true) (nb : numS b = true) (k : K (cmpB a b) H) : Q5 C a b K H := by
 by_cases hn : isMin a = false ∧ isMin b = false
 ·rw [Qk1 hn.1 hn.2] at k; exact QjA hn.1 hn.2 k
 apply Qfx
 unfold QdV
 refine Qb7 (Qb7 ?_)
 rw [pre45, pre45]
 unfold cmpB at k
 refine ift.of (fun h => ?_) (fun h => ?_)
 ·obtain ⟨h1, h2⟩ := Bool.and_eq_true_iff.1 h
  rw [if_pos h1, if_pos h2] at k
  have la : 1 ≤ a.length := by have := Qgi na; cases a <;> simp_all
  have lb : 1 ≤ b.length := by have := Qgi nb; cases b <;> simp_all
  refine ⟨H, Heap.le.refl _, by omega, by omega, by omega, _, rfl, by omega, by omega, by omega, _, rfl, ?_⟩
  have ea : (a.take (a.length : Int).toNat).drop (1 : Int).toNat = a.tail := by simp
  have eb : (b.take (b.length : Int).toNat).drop (1 : Int).toNat = b.tail := by simp
  rw [ea, eb]
  exact QjA (QeA nb h2).1 (QeA na h1).1 ⟨Heap.le.refl _, k⟩
 refine ift.of (fun h1 => ?_) (fun h1 => ?_)
 ·rw [if_pos h1] at k
  have h2 : isMin b = false := by rw [h1] at h; simpa using h
  rw [if_neg (by rw [h2]; simp)] at k; exact k
 rw [if_neg (by rw [h1]; simp)] at k
 refine ift.of (fun h2 => ?_) (fun h2 => ?_)
 ·rw [if_pos h2] at k; exact k
 ·exact absurd ⟨h1, h2⟩ hn
theorem Qmi {a b : Bool} {K : Int → Heap → Prop} (k : K (lastB a b) H) : Qee C a b K H := by
 apply QiC
 unfold Qf4
 unfold lastB at k
 refine ift.of (fun h => ?_) (fun h => ?_)
 ·rw [if_pos (by simpa using h)] at k; exact k
 rw [if_neg (by simpa using h)] at k
 refine ift.of (fun h => ?_) (fun h => ?_)
 ·rw [if_pos h] at k; exact k
 ·rw [if_neg (by rw [h]; decide)] at k; exact k
theorem Qnc {v : V} {x : TV} {K : Bool → Heap → Prop} (hv : VIs H v x) (hB : VB v) (k : K (!mayV v) H) : Qao C x K H := by
 apply Qao.gh
 apply QhY
 unfold Qe4
 intro c hc
 have hle := Heap.le_put hc (g := .row (Qa.c x)) (m := true)
 refine bxV (Heap.put_same ..) ?_
 refine Qdb (hv.le hle) hB ⟨H, Gh.le hle, ?_⟩
 rw [bne, QiQ]; exact k
/-- a function that is asked of each value -/
theorem Qlc {l : List V} {s : Sl} {f : Value} {φ : V → Bool} {K : Int → Heap → Prop} (hs : VRow H s l) (hl : l.length ≤ 140737488355328)
 (hf : ∀ v x, v ∈ l → VIs H v x → ∀ Φ : Value → Heap → Prop, Φ (.bool (φ v)) H → callU Tryz.prog C f [.agg (Qa.c x).toArray] H Φ)
 (k : ∀ i : Int, (0 ≤ i ↔ l.any φ = true) → K i H) : Qs C s f K H := by
 apply QaG
 unfold QJ
 rw [hs.len]
 refine ⟨fun x H' => ∃ i : Nat, x = (i : Int) ∧ i ≤ l.length ∧ H = H' ∧ (l.take i).any φ = false, fun x _ => l.length - x.toNat, ⟨0, rfl, Nat.zero_le _, rfl, rfl⟩, ?_⟩
 rintro x _ ⟨i, rfl, hi, rfl, ha⟩
 refine ift.of (fun h => ?_) (fun h => ?_)
 ·have hlt : i < l.length := by have := of_decide_eq_true h; omega
  have hm := List.getElem_mem hlt
  refine hs.ld (Heap.le.refl _) rfl hlt fun y hy => ?_
  refine hf _ y hm hy _ ⟨_, rfl, ?_⟩
  refine ift.of (fun h => ?_) (fun h => ?_)
  ·exact k _ ⟨fun _ => List.any_eq_true.2 ⟨_, hm, h⟩, fun _ => by omega⟩
  ·rw [Qm (by omega) (by omega)]
   refine ⟨⟨i + 1, by omega, by omega, rfl, ?_⟩, by first | omega | (dsimp only; omega)⟩
   rw [List.take_add_one, List.getElem?_eq_getElem hlt, Option.toList_some, List.any_append, ha]; simp [h]
 ·have hie : i = l.length := by have := of_decide_eq_false h; omega
  rw [hie, List.take_length] at ha
  exact k _ ⟨fun h => by omega, fun h => by rw [h] at ha; cases ha⟩
theorem Qjq {l : List V} {s : Sl} {f : Value} {φ : V → Bool} {K : Bool → Heap → Prop} (hs : VRow H s l) (hl : l.length ≤ 140737488355328)
 (hf : ∀ v x, v ∈ l → VIs H v x → ∀ Φ : Value → Heap → Prop, Φ (.bool (φ v)) H → callU Tryz.prog C f [.agg (Qa.c x).toArray] H Φ)
 (k : K (l.any φ) H) : Qn C s f K H := by
 apply Qaq
 unfold QB
 refine Qlc hs hl hf fun i hi => ?_
 have : decide (i ≥ 0) = l.any φ := by
  rw [Bool.eq_iff_iff, decide_eq_true_eq]; exact hi
 rw [this]; exact k
theorem Qlq {l : List V} {s : Sl} {K : Bool → Heap → Prop} (hs : VRow H s l) (hl : l.length ≤ 140737488355328) (hB : VBs l) (k : K (mayR l) H) : QdE C s K H := by
 apply Qjk
 unfold QgD
 refine Qjq (φ := fun v => !mayV v) hs hl (fun v x hv hx Φ hΦ => ⟨_, [], [], rfl, Qh4, ?_⟩) ?_
 ·have h : Qao C x (fun r H2 => Φ (.bool r) H2) H := Qnc hx (hB.mem hv) hΦ
  exact Spec.mono h fun v H2 ⟨r, hv, h⟩ => by rw [hv]; exact h
 ·have : (!(l.any fun v => !mayV v)) = mayR l := by unfold mayR; rw [List.not_any_eq_all_not]; simp
  rw [this]; exact k
/-- rows, value by value -/
theorem QjV {l m : List V} {s t : Sl} {f : Value} {K : Int → Heap → Prop} (hs : VRow H s l) (ht : VRow H t m) (hl : l.length ≤ 140737488355328) (hm : m.length ≤ 140737488355328)
 (hf : ∀ v x w y, v ∈ l → w ∈ m → ∀ A : Heap, H.le A → VIs A v x → VIs A w y → ∀ Φ : Value → Heap → Prop, Φ (.int .i64 (cmpV v w)) A → callU Tryz.prog C f [.agg (Qa.c x).toArray, .agg (Qa.c y).toArray] A Φ)
 (k : K (cmpVs l m) H) : Qb C s t f K H := by
 apply Qb.gh
 apply QC
 unfold Qh
 rw [hs.len, ht.len]
 refine ⟨fun x A => ∃ i : Nat, x = (i : Int) ∧ i ≤ l.length ∧ i ≤ m.length ∧ H.le A ∧ cmpVs l m = cmpVs (l.drop i) (m.drop i), fun x _ => l.length - x.toNat, ⟨0, rfl, Nat.zero_le _, Nat.zero_le _, Heap.le.refl _, rfl⟩, ?_⟩
 rintro x A ⟨i, rfl, hi, hi2, hA, hc⟩
 refine ift.of (fun h => ?_) (fun h => ?_)
 ·have h1 : i < l.length := by have := of_decide_eq_true h; omega
  have m1 := List.getElem_mem h1
  refine hs.ld hA rfl h1 fun y hy => ?_
  intro b1 n1
  have hle1 := Heap.le_put n1 (g := .row (Qa.c Qa.zero)) (m := true)
  refine ⟨_, Heap.put_same .., by simp [Qa.c], ?_⟩
  have e1 : ∀ z : TV, splice (Qa.c Qa.zero) 0 (Qa.c z) = Qa.c z := fun z => by simp [splice, Qa.c]
  dsimp only
  rw [e1, Heap.put_put]
  have hle1 := Heap.le_put n1 (g := .row (Qa.c y)) (m := true)
  refine ift.of (fun h => ?_) (fun h => ?_)
  ·have h2 : i = m.length := by have := of_decide_eq_true h; omega
   refine ⟨H, Gh.le (hA.trans hle1), ?_⟩
   subst h2
   rw [hc, List.drop_length, List.drop_eq_getElem_cons h1] at k; exact k
  ·have h2 : i < m.length := by have := of_decide_eq_false h; omega
   have m2 := List.getElem_mem h2
   rw [List.drop_eq_getElem_cons h1, List.drop_eq_getElem_cons h2] at hc
   refine ht.ld (hA.trans hle1) rfl h2 fun z hz => ?_
   intro b2 n2
   refine ⟨_, Heap.put_same .., by simp [Qa.c], ?_⟩
   dsimp only
   rw [e1, Heap.put_put]
   have hle2 := Heap.le_put n2 (g := .row (Qa.c z)) (m := true)
   have hne : b1 ≠ b2 := fun e => by rw [← e, Heap.put_same] at n2; cases n2
   refine bxV (m := true) (by rw [Heap.put_ne _ _ _ hne, Heap.put_same]) (bxV (m := true) (Heap.put_same ..) ?_)
   have hle := (hA.trans hle1).trans hle2
   refine hf _ y _ z m1 m2 _ hle (hy.le hle) (hz.le hle) _ ⟨_, rfl, ?_⟩
   simp only [cmpVs] at hc
   refine ift.of (fun h => ?_) (fun h => ?_)
   ·rw [if_pos (by simpa using h)] at hc
    rw [hc] at k; exact ⟨H, Gh.le hle, k⟩
   ·rw [if_neg (by simpa using h)] at hc
    rw [Qm (by omega) (by omega)]
    exact ⟨⟨i + 1, by omega, by omega, by omega, hle, hc⟩, by first | omega | (dsimp only; omega)⟩
 ·have h1 : i = l.length := by have := of_decide_eq_false h; omega
  subst h1
  rw [hc, List.drop_length, Qhd, List.length_drop] at k
  refine ift.of (fun h => ?_) (fun h => ?_)
  ·have := of_decide_eq_true h
   rw [show sgn 0 ((m.length - l.length : Nat) : Int) = -1 by unfold sgn; rw [if_pos (by omega)]] at k
   exact ⟨H, Gh.le hA, k⟩
  ·have := of_decide_eq_false h
   rw [show sgn 0 ((m.length - l.length : Nat) : Int) = 0 by rw [Qap]; omega] at k
   exact ⟨H, Gh.le hA, k⟩
theorem QjH {l m : List V} {s t : Sl} {K : Int → Heap → Prop} (hs : VRow H s l) (ht : VRow H t m) (hl : l.length ≤ 140737488355328) (hm : m.length ≤ 140737488355328)
 (ih : ∀ v ∈ l, ∀ w ∈ m, ∀ {A : Heap} {x y : TV} {K : Int → Heap → Prop}, VIs A v x → VIs A w y → K (cmpV v w) A → Qx C x y K A) (k : K (cmpVs l m) H) : QbN C s t K H := by
 apply QiE
 unfold Qf6
 refine QjV hs ht hl hm (fun v x w y hv hw A hA hx hy Φ hΦ => ⟨_, [], [], rfl, Qhx, ?_⟩) k
 have h : Qav C x y (fun r H2 => Φ (.int .i64 r) H2) A := by
  apply Qav.gh
  apply Qha
  unfold Qev
  intro b1 n1 b3 n3
  have hb3 : ((A.put b1 (.row (Qa.c x))).put b3 (.row (Qa.c y))) b3 = some (true, .row (Qa.c y)) := Heap.put_same ..
  have hne : b1 ≠ b3 := fun e => by rw [e, Heap.put_same] at n3; cases n3
  have hb1 : ((A.put b1 (.row (Qa.c x))).put b3 (.row (Qa.c y))) b1 = some (true, .row (Qa.c x)) := by rw [Heap.put_ne _ _ _ hne, Heap.put_same]
  have hle := (Heap.le_put n1 (g := .row (Qa.c x)) (m := true)).trans (Heap.le_put n3 (g := .row (Qa.c y)) (m := true))
  generalize (A.put b1 (.row (Qa.c x))).put b3 (.row (Qa.c y)) = B at *
  refine bxV hb1 (bxV hb3 ?_)
  exact ih v hv w hw (hx.le hle) (hy.le hle) ⟨A, Gh.le hle, hΦ⟩
 exact Spec.mono h fun v H2 ⟨r, hv, h⟩ => by rw [hv]; exact h
theorem Qcd {k n : Int} {s : Str} {m : Nat} (h : okN k n s m = true) : (k = 1 ∧ s = [] ∧ m = 0) ∨ (k = 2 ∧ s = [] ∧ m = 0) ∨ (k = 3 ∧ n = 0 ∧ m = 0) ∨ (k = 4 ∧ n = 0 ∧ m = 0) ∨ (k = 5 ∧ n = 0 ∧ s = []) ∨ (k = 6 ∧ n = 0) := by
 unfold okN at h
 split at h
 ·rename_i e
  simp only [Bool.and_eq_true, decide_eq_true_eq, List.isEmpty_iff] at h
  exact .inl ⟨e, h.1.2, h.2⟩
 split at h
 ·rename_i e
  simp only [Bool.and_eq_true, decide_eq_true_eq, List.isEmpty_iff] at h
  exact .inr (.inl ⟨e, h.1, h.2⟩)
 split at h
 ·rename_i e
  simp only [Bool.and_eq_true, decide_eq_true_eq, beq_iff_eq] at h
  exact .inr (.inr (.inl ⟨e, h.1.2, h.2⟩))
 split at h
 ·rename_i e
  simp only [Bool.and_eq_true, decide_eq_true_eq, beq_iff_eq] at h
  exact .inr (.inr (.inr (.inl ⟨e, h.1, h.2⟩)))
 split at h
 ·rename_i e
  simp only [Bool.and_eq_true, decide_eq_true_eq, beq_iff_eq, List.isEmpty_iff] at h
  exact .inr (.inr (.inr (.inr (.inl ⟨e, h.1.1, h.1.2⟩))))
 split at h
 ·rename_i e
  simp only [Bool.and_eq_true, decide_eq_true_eq, beq_iff_eq] at h
  exact .inr (.inr (.inr (.inr (.inr ⟨e, h.1⟩))))
 ·cases h
theorem Qnk {v w : V} {x y : TV} {H : Heap} {K : Int → Heap → Prop} (hv : VIs H v x) (hw : VIs H w y) (hB : VB v) (hB2 : VB w) (hF : formV v = true) (hF2 : formV w = true) (k : K (cmpV v w) H) : Qx C x y K H := by
 refine V.rec_ (P := fun v => ∀ {w x y H} {K : Int → Heap → Prop}, VIs H v x → VIs H w y → VB v → VB w → formV v = true → formV w = true → K (cmpV v w) H → Qx C x y K H) (fun v ih => ?_) v hv hw hB hB2 hF hF2 k
 clear hv hw hB hB2 hF hF2 k
 intro w x y H K hv hw hB hB2 hF hF2 k
 apply Qx.gh
 apply Qgf
 unfold Qdo
 intro b1 n1 b3 n3
 have hb3 : ((H.put b1 (.row (Qa.c x))).put b3 (.row (Qa.c y))) b3 = some (true, .row (Qa.c y)) := Heap.put_same ..
 have hne : b1 ≠ b3 := fun e => by rw [e, Heap.put_same] at n3; cases n3
 have hb1 : ((H.put b1 (.row (Qa.c x))).put b3 (.row (Qa.c y))) b1 = some (true, .row (Qa.c x)) := by rw [Heap.put_ne _ _ _ hne, Heap.put_same]
 have hle := (Heap.le_put n1 (g := .row (Qa.c x)) (m := true)).trans (Heap.le_put n3 (g := .row (Qa.c y)) (m := true))
 generalize (H.put b1 (.row (Qa.c x))).put b3 (.row (Qa.c y)) = H1 at *
 have k' : ∃ H0, Gh C H1 H0 ∧ K (cmpV v w) H0 := ⟨H, Gh.le hle, k⟩
 rw [Qb5, Bool.and_eq_true] at hF hF2
 rw [Qhb] at k'
 refine bxK hb1 (bxK hb3 ?_)
 rw [hv.kind, hw.kind]
 refine Qmg ?_
 refine ift.of (fun h => ?_) (fun h => ?_)
 ·rw [if_pos (fun e => by rw [e, QeB] at h; simp at h)] at k'; exact k'
 have hkk : v.k = w.k := Qap.1 (by simpa using h)
 rw [if_neg (by simp [hkk])] at k'
 have hr1 := hv.row.le hle
 have hr2 := hw.row.le hle
 refine bxK hb1 ?_
 rw [hv.kind]
 refine ift.of (fun h => ?_) (fun h3 => ?_)
 ·have h : v.k = 3 := by simpa using h
  rw [if_pos h] at k'
  refine bxS hb1 (bxS hb3 ?_)
  rw [hv.txt, hw.txt]
  exact Qmf (Qho hF.1 h) (Qho hF2.1 (by omega)) k'
 have h3 : ¬ v.k = 3 := by simpa using h3
 rw [if_neg h3] at k'
 refine ift.of (fun h => ?_) (fun h4 => ?_)
 ·have h : v.k = 4 := by simpa using h
  rw [if_pos h] at k'
  refine bxS hb1 (bxS hb3 ?_)
  rw [hv.txt, hw.txt]
  exact Qi2 k'
 have h4 : ¬ v.k = 4 := by simpa using h4
 rw [if_neg h4] at k'
 refine ⟨H1, Heap.le.refl _, ?_⟩
 refine bxN hb1 (bxN hb3 (bxS hb1 (bxS hb3 (bxL hb1 (bxL hb3 ?_)))))
 rw [hv.num, hw.num, hv.txt, hw.txt]
 refine Qlo ⟨Heap.le.refl _, Qi2 ⟨Heap.le.refl _, ?_⟩⟩
 refine QjH hr1 hr2 hB.l hB2.l (fun p hp q hq {A x' y'} {K'} hx hy kk => ih p hp hx hy (hB.ls.mem hp) (hB2.ls.mem hq) (Qbe hp hF.2) (Qbe hq hF2.2) kk) ⟨Heap.le.refl _, ?_⟩
 intro b5 n5
 have hle5 := Heap.le_put n5 (g := .row [Value.int .i64 (sgn v.n w.n), .int .i64 (vcmpS v.s w.s), .int .i64 (cmpVs v.l w.l)]) (m := true)
 refine ⟨hle5, ?_⟩
 refine QmR (l := [sgn v.n w.n, vcmpS v.s w.s, cmpVs v.l w.l]) (Heap.put_same ..) rfl (by simp) ⟨hle5, ?_⟩
 rw [or3]
 obtain ⟨H0, hg, hk⟩ := k'
 refine ⟨H0, (Gh.le hle5).trans hg, ?_⟩
 rcases Qcd hF.1 with ⟨e, e1, e2⟩ | ⟨e, e1, e2⟩ | ⟨e, _⟩ | ⟨e, _⟩ | ⟨e, e1, e2⟩ | ⟨e, e1⟩
 ·rcases Qcd hF2.1 with ⟨f, f1, f2⟩ | ⟨f, _⟩ | ⟨f, _⟩ | ⟨f, _⟩ | ⟨f, _⟩ | ⟨f, _⟩ <;> try (exfalso; omega)
  rw [if_neg (by omega), if_neg (by omega)] at hk
  have l1 := List.length_eq_zero_iff.1 e2
  have l2 := List.length_eq_zero_iff.1 f2
  rw [e1, f1, l1, l2]
  split
  ·exact hk
  ·rename_i hz
   have : sgn v.n w.n = 0 := by omega
   rw [this] at hk
   simpa [vcmpS, cmpVs] using hk
 ·rcases Qcd hF2.1 with ⟨f, _⟩ | ⟨f, f1, f2⟩ | ⟨f, _⟩ | ⟨f, _⟩ | ⟨f, _⟩ | ⟨f, _⟩ <;> try (exfalso; omega)
  rw [if_neg (by omega), if_neg (by omega)] at hk
  have l1 := List.length_eq_zero_iff.1 e2
  have l2 := List.length_eq_zero_iff.1 f2
  rw [e1, f1, l1, l2]
  split
  ·exact hk
  ·rename_i hz
   have : sgn v.n w.n = 0 := by omega
   rw [this] at hk
   simpa [vcmpS, cmpVs] using hk
 ·exact absurd e h3
 ·exact absurd e h4
 ·rcases Qcd hF2.1 with ⟨f, _⟩ | ⟨f, _⟩ | ⟨f, _⟩ | ⟨f, _⟩ | ⟨f, f1, f2⟩ | ⟨f, _⟩ <;> try (exfalso; omega)
  rw [if_pos e] at hk
  rw [e1, f1, e2, f2, QeB]
  simpa [vcmpS] using hk
 ·rcases Qcd hF2.1 with ⟨f, _⟩ | ⟨f, _⟩ | ⟨f, _⟩ | ⟨f, _⟩ | ⟨f, _⟩ | ⟨f, f1⟩ <;> try (exfalso; omega)
  rw [if_neg (by omega), if_pos e] at hk
  rw [e1, f1, QeB]
  simpa using hk
theorem Qmk {l m : List V} {s t : Sl} {K : Int → Heap → Prop} (hs : VRow H s l) (ht : VRow H t m) (hl : l.length ≤ 140737488355328) (hm : m.length ≤ 140737488355328) (hB : VBs l) (hB2 : VBs m) (hF : mayR l = true) (hF2 : mayR m = true) (k : K (cmpVs l m) H) : QbN C s t K H :=
 QjH hs ht hl hm (fun p hp q hq {A x' y'} {K'} hx hy kk => Qnk hx hy (hB.mem hp) (hB2.mem hq) (Qbr (List.all_eq_true.1 hF p hp)) (Qbr (List.all_eq_true.1 hF2 q hq)) kk) k
theorem Qj0 {l m : List V} {s t : Sl} {K : Int → Heap → Prop} (hs : VRow H s l) (ht : VRow H t m) (hl : l.length ≤ 140737488355328) (hm : m.length ≤ 140737488355328) (hB : VBs l) (hB2 : VBs m) (k : K (cmpR l m) H) : Qcc C s t K H := by
 apply QgM
 unfold Qd8
 refine Qlq hs hl hB (Qlq ht hm hB2 ?_)
 unfold cmpR at k
 refine ift.of (fun h => ?_) (fun h => ?_)
 ·refine Qmi ?_
  rw [if_neg (by intro hh; rw [hh.1, hh.2] at h; cases h)] at k; exact k
 ·have h1 : mayR l = true ∧ mayR m = true := by simpa using h
  rw [if_pos h1] at k
  exact Qmk hs ht hl hm hB hB2 h1.1 h1.2 k
end
end
section
open Go Go.Proofs
/-- an order, told by signs -/
structure Lin {α : Type} (f : α → α → Int) (P : α → Prop) : Prop where
 anti : ∀ a b, P a → P b → f b a = - f a b
 rng : ∀ a b, P a → P b → -1 ≤ f a b ∧ f a b ≤ 1
 tr : ∀ a b c, P a → P b → P c → f a b ≤ 0 → f b c ≤ 0 → f a c ≤ 0 ∧ (f a b < 0 ∨ f b c < 0 → f a c < 0)
section
variable {α β : Type} {f g : α → α → Int} {P Q : α → Prop}
theorem Lin.refl (h : Lin f P) {a : α} (ha : P a) : f a a = 0 := by have := h.anti a a ha ha; omega
theorem Lin.l0 (h : Lin f P) {a b c : α} (ha : P a) (hb : P b) (hc : P c) (e : f a b = 0) : f a c = f b c := by
 have t1 := h.tr a b c ha hb hc (by omega)
 have e' := h.anti a b ha hb
 have t2 := h.tr b a c hb ha hc (by omega)
 have r1 := h.rng a c ha hc
 have r2 := h.rng b c hb hc
 rcases Int.lt_trichotomy (f b c) 0 with h1 | h1 | h1
 ·have := (t1 (by omega)).2 (.inr h1); omega
 ·have k1 := (t1 (by omega)).1
  rcases Int.lt_trichotomy (f a c) 0 with h2 | h2 | h2
  ·have := (t2 (by omega)).2 (.inr h2); omega
  ·omega
  ·omega
 ·rcases Int.lt_trichotomy (f a c) 0 with h2 | h2 | h2
  ·have := (t2 (by omega)).2 (.inr h2); omega
  ·have := (t2 (by omega)).1; omega
  ·omega
theorem Lin.r0 (h : Lin f P) {a b c : α} (ha : P a) (hb : P b) (hc : P c) (e : f b c = 0) : f a c = f a b := by
 have h1 := h.anti b c hb hc
 have h2 := h.l0 hc hb ha (by omega)
 have h3 := h.anti a c ha hc
 have h4 := h.anti a b ha hb
 omega
theorem Lin.sub (h : Lin f P) (hs : ∀ a, Q a → P a) : Lin f Q := ⟨fun a b ha hb => h.anti a b (hs a ha) (hs b hb), fun a b ha hb => h.rng a b (hs a ha) (hs b hb), fun a b c ha hb hc => h.tr a b c (hs a ha) (hs b hb) (hs c hc)⟩
theorem Lin.swap (h : Lin f P) : Lin (fun a b => f b a) P := ⟨fun a b ha hb => h.anti b a hb ha, fun a b ha hb => h.rng b a hb ha, fun a b c ha hb hc h1 h2 => by
 have := h.tr c b a hc hb ha h2 h1
 exact ⟨this.1, fun hh => this.2 hh.symm⟩⟩
theorem Lin.comp {f : β → β → Int} {P : β → Prop} (h : Lin f P) (u : α → β) : Lin (fun a b => f (u a) (u b)) (fun a => P (u a)) :=
 ⟨fun a b ha hb => h.anti _ _ ha hb, fun a b ha hb => h.rng _ _ ha hb, fun a b c ha hb hc => h.tr _ _ _ ha hb hc⟩
theorem Lin.or (h : Lin f P) (h2 : Lin g P) : Lin (fun a b => if f a b ≠ 0 then f a b else g a b) P := by
 refine ⟨fun a b ha hb => ?_, fun a b ha hb => ?_, fun a b c ha hb hc => ?_⟩
 ·have e1 := h.anti a b ha hb
  have e2 := h2.anti a b ha hb
  try dsimp only
  by_cases hz : f a b = 0
  ·rw [if_neg (by omega), if_neg (by omega)]; exact e2
  ·rw [if_pos (by omega), if_pos (by omega)]; exact e1
 ·try dsimp only
  split
  ·exact h.rng a b ha hb
  ·exact h2.rng a b ha hb
 ·try dsimp only
  have t := h.tr a b c ha hb hc
  have t2 := h2.tr a b c ha hb hc
  by_cases h1 : f a b = 0
  ·have e := h.l0 ha hb hc h1
   by_cases h3 : f b c = 0
   ·rw [if_neg (by omega), if_neg (by omega), if_neg (by omega)]; exact t2
   ·rw [if_neg (by omega), if_pos h3, if_pos (by omega)]
    intro _ k2
    exact ⟨by omega, fun _ => by omega⟩
  ·by_cases h3 : f b c = 0
   ·have e := h.r0 ha hb hc h3
    rw [if_pos h1, if_neg (by omega), if_pos (by omega)]
    intro k1 _
    exact ⟨by omega, fun _ => by omega⟩
   ·rw [if_pos h1, if_pos h3]
    intro k1 k2
    have := (t k1 k2).2 (.inl (by omega))
    rw [if_pos (by omega)]
    exact ⟨by omega, fun _ => this⟩
/-- first by classes, then within a class -/
theorem Lin.sel {κ : α → Int} {B : Int → α → α → Int} (hs : Lin (fun a b : Int => sgn a b) fun _ => True) (h : ∀ k, Lin (B k) P) : Lin (fun a b => if κ a ≠ κ b then sgn (κ a) (κ b) else B (κ a) a b) P := by
 refine ⟨fun a b ha hb => ?_, fun a b ha hb => ?_, fun a b c ha hb hc => ?_⟩
 ·try dsimp only
  by_cases hz : κ a = κ b
  ·rw [if_neg (by omega), if_neg (by omega), hz]; exact (h _).anti a b ha hb
  ·rw [if_pos (by omega), if_pos (by omega)]; exact hs.anti _ _ trivial trivial
 ·try dsimp only
  split
  ·exact hs.rng _ _ trivial trivial
  ·exact (h _).rng a b ha hb
 ·try dsimp only
  have t := hs.tr (κ a) (κ b) (κ c) trivial trivial trivial
  try dsimp only at t
  by_cases h1 : κ a = κ b
  ·by_cases h3 : κ b = κ c
   ·rw [if_neg (by omega), if_neg (by omega), if_neg (by omega), ← h1]; exact (h _).tr a b c ha hb hc
   ·rw [if_neg (by omega), if_pos h3, if_pos (by omega), h1]
    intro _ k2
    have := Qap (a := κ b) (b := κ c)
    exact ⟨by omega, fun _ => by omega⟩
  ·have z1 := Qap (a := κ a) (b := κ b)
   by_cases h3 : κ b = κ c
   ·rw [if_pos h1, if_neg (by omega), if_pos (by omega), ← h3]
    intro k1 _
    exact ⟨by omega, fun _ => by omega⟩
   ·rw [if_pos h1, if_pos h3]
    intro k1 k2
    have := (t k1 k2).2 (.inl (by omega))
    have z2 := QhF.1 this
    rw [if_pos (by omega)]
    exact ⟨by omega, fun _ => this⟩
end
theorem Lin.sgn : Lin (fun a b : Int => sgn a b) fun _ => True := by
 refine ⟨fun a b _ _ => ?_, fun a b _ _ => QlI a b, fun a b c _ _ _ h1 h2 => ?_⟩
 ·unfold Sx.sgn; split <;> split <;> omega
 ·have n1 := QhF (a := a) (b := b)
  have n2 := QhF (a := b) (b := c)
  have n3 := QhF (a := a) (b := c)
  have z1 := Qap (a := a) (b := b)
  have z2 := Qap (a := b) (b := c)
  have z3 := Qap (a := a) (b := c)
  omega
def lexF {α : Type} (f : α → α → Int) : List α → List α → Int
 | [], [] => 0
 | [], _ :: _ => -1
 | _ :: _, [] => 1
 | a :: s, b :: t => if f a b ≠ 0 then f a b else lexF f s t
theorem Lin.lex {α : Type} {f : α → α → Int} {P : α → Prop} (h : Lin f P) : Lin (lexF f) (fun l => ∀ a ∈ l, P a) := by
 refine ⟨fun l => ?_, fun l => ?_, fun l => ?_⟩
 ·induction l with
  | nil => intro m _ _; cases m <;> simp [lexF]
  | cons a l ih =>
   intro m hl hm
   cases m with
   | nil => simp [lexF]
   | cons b m =>
    have ha := hl a (List.mem_cons_self ..)
    have hb := hm b (List.mem_cons_self ..)
    have e1 := h.anti a b ha hb
    have e2 := ih m (fun x hx => hl x (List.mem_cons_of_mem _ hx)) (fun x hx => hm x (List.mem_cons_of_mem _ hx))
    simp only [lexF]
    by_cases hz : f a b = 0
    ·rw [if_neg (by omega), if_neg (by omega)]; exact e2
    ·rw [if_pos (by omega), if_pos (by omega)]; exact e1
 ·induction l with
  | nil => intro m _ _; cases m <;> simp [lexF]
  | cons a l ih =>
   intro m hl hm
   cases m with
   | nil => simp [lexF]
   | cons b m =>
    simp only [lexF]
    split
    ·exact h.rng a b (hl a (List.mem_cons_self ..)) (hm b (List.mem_cons_self ..))
    ·exact ih m (fun x hx => hl x (List.mem_cons_of_mem _ hx)) (fun x hx => hm x (List.mem_cons_of_mem _ hx))
 ·induction l with
  | nil =>
   intro m n _ _ _ h1 h2
   cases n with
   | nil =>
    cases m with
    | nil => simp [lexF]
    | cons b m => simp [lexF] at h2
   | cons c n => simp [lexF]
  | cons a l ih =>
   intro m n hl hm hn
   cases m with
   | nil => intro h1; simp [lexF] at h1
   | cons b m =>
   cases n with
   | nil => intro _ h2; simp [lexF] at h2
   | cons c n =>
    have ha := hl a (List.mem_cons_self ..)
    have hb := hm b (List.mem_cons_self ..)
    have hc := hn c (List.mem_cons_self ..)
    have t := h.tr a b c ha hb hc
    have t2 := ih m n (fun x hx => hl x (List.mem_cons_of_mem _ hx)) (fun x hx => hm x (List.mem_cons_of_mem _ hx)) (fun x hx => hn x (List.mem_cons_of_mem _ hx))
    simp only [lexF]
    by_cases h1 : f a b = 0
    ·have e := h.l0 ha hb hc h1
     by_cases h3 : f b c = 0
     ·rw [if_neg (by omega), if_neg (by omega), if_neg (by omega)]; exact t2
     ·rw [if_neg (by omega), if_pos h3, if_pos (by omega)]
      intro _ k2
      exact ⟨by omega, fun _ => by omega⟩
    ·by_cases h3 : f b c = 0
     ·have e := h.r0 ha hb hc h3
      rw [if_pos h1, if_neg (by omega), if_pos (by omega)]
      intro k1 _
      exact ⟨by omega, fun _ => by omega⟩
     ·rw [if_pos h1, if_pos h3]
      intro k1 k2
      have := (t k1 k2).2 (.inl (by omega))
      rw [if_pos (by omega)]
      exact ⟨by omega, fun _ => this⟩
theorem QjP : ∀ s t : Str, vcmpS s t = lexF (fun a b : UInt8 => sgn a.toNat b.toNat) s t
 | [], [] => rfl
 | [], _ :: _ => rfl
 | _ :: _, [] => rfl
 | a :: s, b :: t => by
  simp only [vcmpS, lexF, QjP s t]
  by_cases h : a = b
  ·subst h; rw [QeB]; simp
  ·have : ¬ sgn a.toNat b.toNat = 0 := fun e => h (UInt8.toNat_inj.1 (by have := Qap.1 e; omega))
   rw [if_neg h, if_pos this]
theorem Lin.txt : Lin vcmpS fun _ => True := by
 have h := (Lin.sgn.comp (fun a : UInt8 => (a.toNat : Int))).lex
 have e : vcmpS = lexF (fun a b : UInt8 => Sx.sgn a.toNat b.toNat) := funext fun s => funext fun t => QjP s t
 rw [e]
 exact h.sub fun _ _ _ _ => trivial
theorem Lin.dig : Lin cmpD fun _ => True := by
 have h := (Lin.sgn.comp (fun a : Str => (a.length : Int))).or Lin.txt
 have e : cmpD = fun a b : Str => if Sx.sgn a.length b.length ≠ 0 then Sx.sgn a.length b.length else vcmpS a b := funext fun a => funext fun b => by
  unfold cmpD
  by_cases hl : a.length = b.length
  ·rw [if_pos hl, if_neg (by rw [hl, QeB]; simp)]
  ·rw [if_neg hl, if_pos (fun e => hl (by have := Qap.1 e; omega))]
 rw [e]; exact h
theorem Lin.bigs : Lin cmpB fun _ => True := by
 have h := Lin.sel (α := Str) (P := fun _ => True) (κ := fun s => if isMin s then 0 else 1) (B := fun k a b => if k = 0 then cmpD b.tail a.tail else cmpD a b) Lin.sgn fun k => by
  by_cases hk : k = 0
  ·subst hk
   simp only [if_true]
   exact (Lin.dig.swap.comp List.tail)
  ·simp only [if_neg hk]
   exact Lin.dig
 have e : cmpB = fun a b : Str => if (if isMin a then (0 : Int) else 1) ≠ (if isMin b then 0 else 1) then Sx.sgn (if isMin a then 0 else 1) (if isMin b then 0 else 1) else (if (if isMin a then (0 : Int) else 1) = 0 then cmpD b.tail a.tail else cmpD a b) := funext fun a => funext fun b => by
  unfold cmpB
  cases ha : isMin a <;> cases hb : isMin b <;> simp [Sx.sgn]
 rw [e]; exact h
theorem Qhc : ∀ l m : List V, cmpVs l m = lexF cmpV l m
 | [], [] => rfl
 | [], _ :: _ => rfl
 | _ :: _, [] => rfl
 | v :: l, w :: m => by simp only [cmpVs, lexF, Qhc l m]
theorem Lin.vals : ∀ n : Nat, Lin cmpV fun v => vsize v ≤ n := by
 intro n
 induction n with
 | zero => exact ⟨fun a b ha => by obtain ⟨k, n, s, l⟩ := a; simp [vsize] at ha, fun a b ha => by obtain ⟨k, n, s, l⟩ := a; simp [vsize] at ha, fun a b c ha => by obtain ⟨k, n, s, l⟩ := a; simp [vsize] at ha⟩
 | succ n ih =>
  have hl : Lin (fun v w : V => cmpVs v.l w.l) fun v => vsize v ≤ n + 1 := by
   have h := (ih.lex).comp V.l
   have e : (fun v w : V => cmpVs v.l w.l) = fun v w : V => lexF cmpV v.l w.l := funext fun v => funext fun w => Qhc _ _
   rw [e]
   exact h.sub fun v hv x hx => by have := Qjc hx; omega
  have hs : Lin (fun v w : V => vcmpS v.s w.s) fun v => vsize v ≤ n + 1 := (Lin.txt.comp V.s).sub fun _ _ => trivial
  have h := Lin.sel (α := V) (P := fun v => vsize v ≤ n + 1) (κ := V.k) (B := fun k v w => if k = 3 then cmpB v.s w.s else if k = 4 then vcmpS v.s w.s else if k = 5 then cmpVs v.l w.l else if k = 6 then (if vcmpS v.s w.s ≠ 0 then vcmpS v.s w.s else cmpVs v.l w.l) else Sx.sgn v.n w.n) Lin.sgn fun k => by
   by_cases h3 : k = 3
   ·simp only [if_pos h3]; exact (Lin.bigs.comp V.s).sub fun _ _ => trivial
   simp only [if_neg h3]
   by_cases h4 : k = 4
   ·simp only [if_pos h4]; exact hs
   simp only [if_neg h4]
   by_cases h5 : k = 5
   ·simp only [if_pos h5]; exact hl
   simp only [if_neg h5]
   by_cases h6 : k = 6
   ·simp only [if_pos h6]; exact hs.or hl
   simp only [if_neg h6]
   exact (Lin.sgn.comp V.n).sub fun _ _ => trivial
  have e : cmpV = fun v w : V => if v.k ≠ w.k then Sx.sgn v.k w.k else if v.k = 3 then cmpB v.s w.s else if v.k = 4 then vcmpS v.s w.s else if v.k = 5 then cmpVs v.l w.l else if v.k = 6 then (if vcmpS v.s w.s ≠ 0 then vcmpS v.s w.s else cmpVs v.l w.l) else Sx.sgn v.n w.n := funext fun v => funext fun w => Qhb v w
  rw [e]; exact h
theorem Lin.val : Lin cmpV fun _ => True := by
 refine ⟨fun a b _ _ => ?_, fun a b _ _ => ?_, fun a b c _ _ _ => ?_⟩
 ·exact (Lin.vals (vsize a + vsize b)).anti a b (by omega) (by omega)
 ·exact (Lin.vals (vsize a + vsize b)).rng a b (by omega) (by omega)
 ·exact (Lin.vals (vsize a + vsize b + vsize c)).tr a b c (by omega) (by omega) (by omega)
theorem Lin.vs : Lin cmpVs fun _ => True := by
 have e : cmpVs = lexF cmpV := funext fun l => funext fun m => Qhc l m
 rw [e]
 exact Lin.val.lex.sub fun _ _ _ _ => trivial
theorem Lin.row : Lin cmpR fun _ => True := by
 have h := Lin.sel (α := List V) (P := fun _ => True) (κ := fun l => if mayR l then 0 else 1) (B := fun k a b => if k = 0 then cmpVs a b else 0) Lin.sgn fun k => by
  by_cases hk : k = 0
  ·simp only [if_pos hk]; exact Lin.vs
  ·simp only [if_neg hk]
   exact ⟨fun _ _ _ _ => rfl, fun _ _ _ _ => by simp, fun _ _ _ _ _ _ _ _ => by simp⟩
 have e : cmpR = fun a b : List V => if (if mayR a then (0 : Int) else 1) ≠ (if mayR b then 0 else 1) then Sx.sgn (if mayR a then 0 else 1) (if mayR b then 0 else 1) else (if (if mayR a then (0 : Int) else 1) = 0 then cmpVs a b else 0) := funext fun a => funext fun b => by
  unfold cmpR lastB
  cases ha : mayR a <;> cases hb : mayR b <;> simp [Sx.sgn]
 rw [e]; exact h
theorem Qjn {a b : Str} (h : cmpD a b = 0) : a = b := by
 unfold cmpD at h
 by_cases hl : a.length = b.length
 ·rw [if_pos hl] at h; exact (vslt a b).2.1.1 h
 ·rw [if_neg hl] at h; exact absurd (Qap.1 h) (by omega)
theorem Qib {a : Str} (h : isMin a = true) : a = 45 :: a.tail := by
 cases a with
 | nil => simp [isMin] at h
 | cons c a => simp [isMin] at h; rw [h]; rfl
theorem Qk2 {a b : Str} (h : cmpB a b = 0) : a = b := by
 unfold cmpB at h
 cases ha : isMin a <;> cases hb : isMin b <;> rw [ha, hb] at h
 ·exact Qjn (by simpa using h)
 ·simp at h
 ·simp at h
 ·have := Qjn (by simpa using h)
  rw [Qib ha, Qib hb, this]
theorem Qk3 {v w : V} (hv : formV v = true) (hw : formV w = true) (h : cmpV v w = 0) : v = w := by
 have key : ∀ n, ∀ v w : V, vsize v ≤ n → formV v = true → formV w = true → cmpV v w = 0 → v = w := by
  intro n
  induction n with
  | zero => intro v w hn; obtain ⟨k, n, s, l⟩ := v; simp [vsize] at hn
  | succ n ih =>
   intro v w hn hv hw h
   have hrow : ∀ l m : List V, (∀ x ∈ l, vsize x ≤ n) → formVs l = true → formVs m = true → cmpVs l m = 0 → l = m := by
    intro l
    induction l with
    | nil => intro m _ _ _ h; cases m with
     | nil => rfl
     | cons w m => simp [cmpVs] at h
    | cons a l ihl =>
     intro m hn hl hm h
     cases m with
     | nil => simp [cmpVs] at h
     | cons b m =>
      simp only [cmpVs] at h
      simp only [formVs, Bool.and_eq_true] at hl hm
      split at h
      ·rename_i h1; exact absurd h h1
      ·rename_i h1
       have h1 : cmpV a b = 0 := by omega
       rw [ih a b (hn a (List.mem_cons_self ..)) hl.1 hm.1 h1, ihl m (fun x hx => hn x (List.mem_cons_of_mem _ hx)) hl.2 hm.2 h]
   have hvl : ∀ x ∈ v.l, vsize x ≤ n := fun x hx => by have := Qjc hx; omega
   rw [Qb5, Bool.and_eq_true] at hv hw
   rw [Qhb] at h
   have ext : v.k = w.k → v.n = w.n → v.s = w.s → v.l = w.l → v = w := by
    intro e1 e2 e3 e4
    obtain ⟨k, n1, s, l⟩ := v
    obtain ⟨k', n1', s', l'⟩ := w
    have e1 : k = k' := e1
    have e2 : n1 = n1' := e2
    have e3 : s = s' := e3
    have e4 : l = l' := e4
    rw [e1, e2, e3, e4]
   by_cases hk : v.k = w.k
   ·rw [if_neg (by simp [hk])] at h
    rcases Qcd hv.1 with ⟨e, e1, e2⟩ | ⟨e, e1, e2⟩ | ⟨e, e1, e2⟩ | ⟨e, e1, e2⟩ | ⟨e, e1, e2⟩ | ⟨e, e1⟩ <;>
    rcases Qcd hw.1 with ⟨f, f1, f2⟩ | ⟨f, f1, f2⟩ | ⟨f, f1, f2⟩ | ⟨f, f1, f2⟩ | ⟨f, f1, f2⟩ | ⟨f, f1⟩ <;> try (exfalso; omega)
    ·rw [if_neg (by omega), if_neg (by omega), if_neg (by omega), if_neg (by omega)] at h
     exact ext hk (Qap.1 h) (e1.trans f1.symm) ((List.length_eq_zero_iff.1 e2).trans (List.length_eq_zero_iff.1 f2).symm)
    ·rw [if_neg (by omega), if_neg (by omega), if_neg (by omega), if_neg (by omega)] at h
     exact ext hk (Qap.1 h) (e1.trans f1.symm) ((List.length_eq_zero_iff.1 e2).trans (List.length_eq_zero_iff.1 f2).symm)
    ·rw [if_pos e] at h
     exact ext hk (e1.trans f1.symm) (Qk2 h) ((List.length_eq_zero_iff.1 e2).trans (List.length_eq_zero_iff.1 f2).symm)
    ·rw [if_neg (by omega), if_pos e] at h
     exact ext hk (e1.trans f1.symm) ((vslt v.s w.s).2.1.1 h) ((List.length_eq_zero_iff.1 e2).trans (List.length_eq_zero_iff.1 f2).symm)
    ·rw [if_neg (by omega), if_neg (by omega), if_pos e] at h
     exact ext hk (e1.trans f1.symm) (e2.trans f2.symm) (hrow v.l w.l hvl hv.2 hw.2 h)
    ·rw [if_neg (by omega), if_neg (by omega), if_neg (by omega), if_pos e] at h
     split at h
     ·rename_i h1; exact absurd h h1
     ·rename_i h1
      exact ext hk (e1.trans f1.symm) ((vslt v.s w.s).2.1.1 (by omega)) (hrow v.l w.l hvl hv.2 hw.2 h)
   ·rw [if_pos hk] at h; exact absurd (Qap.1 h) hk
 exact key _ v w (Nat.le_refl _) hv hw h
theorem Qh8 : ∀ {l m : List V}, mayR l = true → mayR m = true → cmpVs l m = 0 → l = m
 | [], [], _, _, _ => rfl
 | [], _ :: _, _, _, h => by simp [cmpVs] at h
 | _ :: _, [], _, _, h => by simp [cmpVs] at h
 | v :: l, w :: m, hl, hm, h => by
  simp only [cmpVs] at h
  simp only [mayR, List.all_cons, Bool.and_eq_true] at hl hm
  split at h
  ·rename_i h1; exact absurd h h1
  ·rename_i h1
   rw [Qk3 (Qbr hl.1) (Qbr hm.1) (by omega), Qh8 (l := l) (m := m) hl.2 hm.2 h]
theorem Qjo {l m : List V} (hl : mayR l = true) (hm : mayR m = true) : cmpR l m = 0 ↔ l = m := by
 refine ⟨fun h => ?_, fun h => by rw [h]; exact Lin.row.refl trivial⟩
 unfold cmpR at h
 rw [if_pos ⟨hl, hm⟩] at h
 exact Qh8 hl hm h
end
section
open Go Go.Proofs
section
variable {α : Type} {κ : α → α → Int} {ι : α → Nat} {P : α → Prop}
/-- stands ahead; of two alike the one that was ahead -/
def Bf (κ : α → α → Int) (ι : α → Nat) (x y : α) : Prop := κ x y < 0 ∨ (κ x y = 0 ∧ ι x < ι y)
theorem Qmm {R : α → α → Prop} {Y : List α} (h : Y.Pairwise R) (i : Nat) : (Y.take i).Pairwise R ∧ (Y.drop i).Pairwise R ∧ ∀ x ∈ Y.take i, ∀ y ∈ Y.drop i, R x y := by
 have h' : (Y.take i ++ Y.drop i).Pairwise R := by rw [List.take_append_drop]; exact h
 exact List.pairwise_append.1 h'
theorem QgW {Y : List α} {i : Nat} {x : α} (h : x ∈ Y.take i) : x ∈ Y := List.mem_of_mem_take h
theorem QgV {Y : List α} {i : Nat} {x : α} (h : x ∈ Y.drop i) : x ∈ Y := List.mem_of_mem_drop h
/-- what was sorted by blocks -/
inductive Ch (κ : α → α → Int) (ι : α → Nat) (bs : Nat) : List α → List α → Prop
 | last {Z L : List α} : L.length < bs → Z.Perm L → Z.Pairwise (Bf κ ι) → Ch κ ι bs Z L
 | cons {Z L Z' L' : List α} : L.length = bs → Z.Perm L → Z.Pairwise (Bf κ ι) → Ch κ ι bs Z' L' → Ch κ ι bs (Z ++ Z') (L ++ L')
theorem Ch.perm {bs : Nat} {Z L : List α} (h : Ch κ ι bs Z L) : Z.Perm L := by
 induction h with
 | last _ h _ => exact h
 | cons _ h _ _ ih => exact h.append ih
theorem Ch.all {bs : Nat} {Z L : List α} (h : Ch κ ι bs Z L) (hl : L.length ≤ bs) (h0 : 0 < bs) : Z.Pairwise (Bf κ ι) := by
 cases h with
 | last _ _ h => exact h
 | @cons Z1 L1 Z2 L2 h1 h2 h3 h4 =>
  rw [List.length_append] at hl
  have hp := h4.perm.length_eq
  have e : Z2 = [] := List.length_eq_zero_iff.1 (by rw [hp]; omega)
  rw [e, List.append_nil]; exact h3
end
end
section
open Go Go.Proofs
section
variable {α β : Type} {κ : α → α → Int} {ι : α → Nat} {P : α → Prop}
/-- of each kind the first one, rising -/
structure Rep (κ : α → α → Int) (ι : α → Nat) (L A : List α) : Prop where
 asc : A.Pairwise fun a b => κ a b < 0
 sub : ∀ y ∈ A, y ∈ L
 all : ∀ x ∈ L, ∃ y ∈ A, κ y x = 0
 fst : ∀ y ∈ A, ∀ x ∈ L, κ y x = 0 → x = y ∨ ι y < ι x
theorem QkX (hL : Lin κ P) : ∀ {A B : List α}, A.Pairwise (fun a b => κ a b < 0) → B.Pairwise (fun a b => κ a b < 0) → (∀ x ∈ A, P x) → (∀ x, x ∈ A ↔ x ∈ B) → A = B
 | [], [], _, _, _, _ => rfl
 | [], b :: B, _, _, _, h => absurd ((h b).2 (List.mem_cons_self ..)) (by simp)
 | a :: A, [], _, _, _, h => absurd ((h a).1 (List.mem_cons_self ..)) (by simp)
 | a :: A, b :: B, hA, hB, hP, h => by
  rw [List.pairwise_cons] at hA hB
  have hab : a = b := by
   rcases List.mem_cons.1 ((h a).1 (List.mem_cons_self ..)) with e | e
   ·exact e
   rcases List.mem_cons.1 ((h b).2 (List.mem_cons_self ..)) with e2 | e2
   ·exact e2.symm
   have h1 := hB.1 a e
   have h2 := hA.1 b e2
   have := hL.anti a b (hP a (List.mem_cons_self ..)) (hP b ((h b).2 (List.mem_cons_self ..)))
   omega
  subst hab
  have hr := hL.refl (hP a (List.mem_cons_self ..))
  rw [QkX hL hA.2 hB.2 (fun x hx => hP x (List.mem_cons_of_mem _ hx)) fun x => ⟨fun hx => ?_, fun hx => ?_⟩]
  ·rcases List.mem_cons.1 ((h x).1 (List.mem_cons_of_mem _ hx)) with e | e
   ·have := hA.1 x hx; rw [e] at this; omega
   ·exact e
  ·rcases List.mem_cons.1 ((h x).2 (List.mem_cons_of_mem _ hx)) with e | e
   ·have := hB.1 x hx; rw [e] at this; omega
   ·exact e
/-- two that rise, in one; of two alike the first list's -/
def mrg (κ : α → α → Int) : List α → List α → List α
 | [], b => b
 | x :: a, [] => x :: a
 | x :: a, y :: b => if κ x y < 0 then x :: mrg κ a (y :: b) else if κ x y = 0 then x :: mrg κ a b else y :: mrg κ (x :: a) b
termination_by a b => a.length + b.length
theorem Qlh {a : List α} : mrg κ a [] = a := by cases a <;> simp [mrg]
theorem Qkn (hL : Lin κ P) : ∀ (n : Nat) (A B : List α), A.length + B.length ≤ n → A.Pairwise (fun a b => κ a b < 0) → B.Pairwise (fun a b => κ a b < 0) → (∀ x ∈ A, P x) → (∀ x ∈ B, P x) →
 (∀ y, y ∈ mrg κ A B ↔ y ∈ A ∨ (y ∈ B ∧ ∀ x ∈ A, κ x y ≠ 0)) ∧ (mrg κ A B).Pairwise fun a b => κ a b < 0
 | n, [], B, _, _, hB, _, _ => by
  simp only [mrg]
  exact ⟨fun y => ⟨fun h => .inr ⟨h, fun x hx => (by cases hx)⟩, fun h => h.elim (fun h => by cases h) fun h => h.1⟩, hB⟩
 | n, x :: A, [], _, hA, _, _, _ => by
  simp only [mrg]
  exact ⟨fun y => ⟨.inl, fun h => h.elim id fun h => by cases h.1⟩, hA⟩
 | 0, x :: A, y :: B, h, _, _, _, _ => by simp at h
 | n + 1, x :: A, y :: B, hn, hA, hB, hPA, hPB => by
  simp only [List.length_cons] at hn
  have hA1 := List.pairwise_cons.1 hA
  have hB1 := List.pairwise_cons.1 hB
  have hx := hPA x (List.mem_cons_self ..)
  have hy := hPB y (List.mem_cons_self ..)
  have hPA1 : ∀ x ∈ A, P x := fun z hz => hPA z (List.mem_cons_of_mem _ hz)
  have hPB1 : ∀ x ∈ B, P x := fun z hz => hPB z (List.mem_cons_of_mem _ hz)
  have han := hL.anti x y hx hy
  rw [mrg]
  by_cases h1 : κ x y < 0
  ·rw [if_pos h1]
   obtain ⟨m, p⟩ := Qkn hL n A (y :: B) (by simp only [List.length_cons]; omega) hA1.2 hB hPA1 hPB
   have low : ∀ z ∈ y :: B, κ x z < 0 := fun z hz => by
    rcases List.mem_cons.1 hz with rfl | hz
    ·exact h1
    ·exact (hL.tr x y z hx hy (hPB1 z hz) (by omega) (by have := hB1.1 z hz; omega)).2 (.inl h1)
   refine ⟨fun z => ?_, List.pairwise_cons.2 ⟨fun z hz => ?_, p⟩⟩
   ·rw [List.mem_cons, m z]
    refine ⟨fun h => ?_, fun h => ?_⟩
    ·rcases h with rfl | h | ⟨h, h2⟩
     ·exact .inl (List.mem_cons_self ..)
     ·exact .inl (List.mem_cons_of_mem _ h)
     ·refine .inr ⟨h, fun u hu => ?_⟩
      rcases List.mem_cons.1 hu with rfl | hu
      ·have := low z h; omega
      ·exact h2 u hu
    ·rcases h with h | ⟨h, h2⟩
     ·rcases List.mem_cons.1 h with rfl | h
      ·exact .inl rfl
      ·exact .inr (.inl h)
     ·exact .inr (.inr ⟨h, fun u hu => h2 u (List.mem_cons_of_mem _ hu)⟩)
   ·rcases (m z).1 hz with h | h
    ·exact hA1.1 z h
    ·exact low z h.1
  ·rw [if_neg h1]
   by_cases h2 : κ x y = 0
   ·rw [if_pos h2]
    obtain ⟨m, p⟩ := Qkn hL n A B (by omega) hA1.2 hB1.2 hPA1 hPB1
    have low : ∀ z ∈ B, κ x z < 0 := fun z hz => by
     rw [hL.l0 hx hy (hPB1 z hz) h2]; exact hB1.1 z hz
    refine ⟨fun z => ?_, List.pairwise_cons.2 ⟨fun z hz => ?_, p⟩⟩
    ·rw [List.mem_cons, m z]
     refine ⟨fun h => ?_, fun h => ?_⟩
     ·rcases h with rfl | h | ⟨h, h3⟩
      ·exact .inl (List.mem_cons_self ..)
      ·exact .inl (List.mem_cons_of_mem _ h)
      ·refine .inr ⟨List.mem_cons_of_mem _ h, fun u hu => ?_⟩
       rcases List.mem_cons.1 hu with rfl | hu
       ·have := low z h; omega
       ·exact h3 u hu
     ·rcases h with h | ⟨h, h3⟩
      ·rcases List.mem_cons.1 h with rfl | h
       ·exact .inl rfl
       ·exact .inr (.inl h)
      ·rcases List.mem_cons.1 h with rfl | h
       ·exact absurd h2 (h3 x (List.mem_cons_self ..))
       ·exact .inr (.inr ⟨h, fun u hu => h3 u (List.mem_cons_of_mem _ hu)⟩)
    ·rcases (m z).1 hz with h | h
     ·exact hA1.1 z h
     ·exact low z h.1
   ·rw [if_neg h2]
    have h3 : κ y x < 0 := by omega
    obtain ⟨m, p⟩ := Qkn hL n (x :: A) B (by simp only [List.length_cons]; omega) hA hB1.2 hPA hPB1
    have low : ∀ z ∈ x :: A, κ y z < 0 := fun z hz => by
     rcases List.mem_cons.1 hz with rfl | hz
     ·exact h3
     ·exact (hL.tr y x z hy hx (hPA1 z hz) (by omega) (by have := hA1.1 z hz; omega)).2 (.inl h3)
    refine ⟨fun z => ?_, List.pairwise_cons.2 ⟨fun z hz => ?_, p⟩⟩
    ·rw [List.mem_cons, m z]
     refine ⟨fun h => ?_, fun h => ?_⟩
     ·rcases h with rfl | h | ⟨h, h4⟩
      ·refine .inr ⟨List.mem_cons_self .., fun u hu e => ?_⟩
       have := low u hu
       have := hL.anti z u hy (hPA u hu)
       omega
      ·exact .inl h
      ·exact .inr ⟨List.mem_cons_of_mem _ h, h4⟩
     ·rcases h with h | ⟨h, h4⟩
      ·exact .inr (.inl h)
      ·rcases List.mem_cons.1 h with rfl | h
       ·exact .inl rfl
       ·exact .inr (.inr ⟨h, h4⟩)
    ·rcases (m z).1 hz with h | h
     ·exact low z h
     ·exact hB1.1 z h.1
theorem Rep.mrg (hL : Lin κ P) {L M A B : List α} (hP : ∀ x ∈ L ++ M, P x) (hi : ∀ x ∈ L, ∀ y ∈ M, ι x < ι y) (ha : Rep κ ι L A) (hb : Rep κ ι M B) : Rep κ ι (L ++ M) (Sx.mrg κ A B) := by
 have hPL : ∀ x ∈ L, P x := fun x hx => hP x (List.mem_append_left _ hx)
 have hPM : ∀ x ∈ M, P x := fun x hx => hP x (List.mem_append_right _ hx)
 obtain ⟨m, p⟩ := Qkn hL _ A B (Nat.le_refl _) ha.asc hb.asc (fun x hx => hPL x (ha.sub x hx)) (fun x hx => hPM x (hb.sub x hx))
 refine ⟨p, fun y hy => ?_, fun x hx => ?_, fun y hy x hx e => ?_⟩
 ·rcases (m y).1 hy with h | h
  ·exact List.mem_append_left _ (ha.sub y h)
  ·exact List.mem_append_right _ (hb.sub y h.1)
 ·rcases List.mem_append.1 hx with hx | hx
  ·obtain ⟨y, hy, e⟩ := ha.all x hx
   exact ⟨y, (m y).2 (.inl hy), e⟩
  ·obtain ⟨y, hy, e⟩ := hb.all x hx
   by_cases h : ∀ z ∈ A, κ z y ≠ 0
   ·exact ⟨y, (m y).2 (.inr ⟨hy, h⟩), e⟩
   ·simp only [Classical.not_forall] at h
    obtain ⟨z, hz, h⟩ := h
    have h : κ z y = 0 := Classical.not_not.1 h
    exact ⟨z, (m z).2 (.inl hz), by rw [hL.l0 (hPL z (ha.sub z hz)) (hPM y (hb.sub y hy)) (hPM x hx) h]; exact e⟩
 ·rcases (m y).1 hy with h | ⟨h, h2⟩
  ·rcases List.mem_append.1 hx with hx | hx
   ·exact ha.fst y h x hx e
   ·exact .inr (hi y (ha.sub y h) x hx)
  ·rcases List.mem_append.1 hx with hx | hx
   ·obtain ⟨z, hz, e2⟩ := ha.all x hx
    have hyP := hPM y (hb.sub y h)
    have e3 := hL.anti y x hyP (hPL x hx)
    have := hL.l0 (hPL z (ha.sub z hz)) (hPL x hx) hyP e2
    exact absurd (by omega) (h2 z hz)
   ·exact hb.fst y h x hx e
theorem QiS {κ' : β → β → Int} {f : α → β} (h : ∀ a b, κ a b = κ' (f a) (f b)) : ∀ (n : Nat) (A B : List α), A.length + B.length ≤ n → (mrg κ A B).map f = mrg κ' (A.map f) (B.map f)
 | n, [], B, _ => by simp [mrg]
 | n, x :: A, [], _ => by simp [mrg]
 | 0, x :: A, y :: B, hn => by simp at hn
 | n + 1, x :: A, y :: B, hn => by
  simp only [List.length_cons] at hn
  have i1 := QiS h n A (y :: B) (by simp only [List.length_cons]; omega)
  have i2 := QiS h n A B (by omega)
  have i3 := QiS h n (x :: A) B (by simp only [List.length_cons]; omega)
  simp only [List.map_cons] at i1 i3 ⊢
  rw [mrg, mrg, ← h x y]
  split
  ·rw [List.map_cons, i1]
  ·split
   ·rw [List.map_cons, i2]
   ·rw [List.map_cons, i3]
theorem QiR : ∀ (n : Nat) (A B : List α), A.length + B.length ≤ n → (mrg κ A B).length ≤ A.length + B.length
 | n, [], B, _ => by simp [mrg]
 | n, x :: A, [], _ => by simp [mrg]
 | 0, x :: A, y :: B, hn => by simp at hn
 | n + 1, x :: A, y :: B, hn => by
  simp only [List.length_cons] at hn
  have i1 := QiR n A (y :: B) (by simp only [List.length_cons]; omega)
  have i2 := QiR n A B (by omega)
  have i3 := QiR n (x :: A) B (by simp only [List.length_cons]; omega)
  simp only [List.length_cons] at i1 i3 ⊢
  rw [mrg]
  split
  ·simp only [List.length_cons]; omega
  ·split <;> simp only [List.length_cons] <;> omega
/-- sorted by halves -/
def msort (κ : α → α → Int) : Nat → List α → List α
 | 0, _ => []
 | n + 1, l => if l.length ≤ 1 then l else mrg κ (msort κ n (l.take (l.length / 2))) (msort κ n (l.drop (l.length / 2)))
theorem Qhn (hL : Lin κ P) : ∀ (n : Nat) (L : List α), L.length ≤ n → (∀ x ∈ L, P x) → (L.Pairwise fun x y => ι x < ι y) → Rep κ ι L (msort κ n L)
 | 0, L, hn, _, _ => by
  have : L = [] := List.length_eq_zero_iff.1 (by omega)
  subst this
  exact ⟨.nil, fun y hy => hy, fun x hx => (by cases hx), fun y hy => (by cases hy)⟩
 | n + 1, L, hn, hP, hi => by
  rw [msort]
  split
  ·rename_i h
   match L, h with
   | [], _ => exact ⟨.nil, fun y hy => hy, fun x hx => (by cases hx), fun y hy => (by cases hy)⟩
   | [x], _ =>
    refine ⟨List.pairwise_cons.2 ⟨fun y hy => (by cases hy), .nil⟩, fun y hy => hy, fun z hz => ⟨z, hz, hL.refl (hP z hz)⟩, fun y hy z hz _ => ?_⟩
    rw [List.mem_singleton] at hy hz
    rw [hy, hz]; exact .inl rfl
  ·rename_i h
   obtain ⟨q1, q2, q3⟩ := Qmm hi (L.length / 2)
   have e : L.take (L.length / 2) ++ L.drop (L.length / 2) = L := List.take_append_drop ..
   have r := Rep.mrg (ι := ι) hL (L := L.take (L.length / 2)) (M := L.drop (L.length / 2)) (by rw [e]; exact hP) q3
    (Qhn hL n _ (by rw [List.length_take]; omega) (fun x hx => hP x (QgW hx)) q1)
    (Qhn hL n _ (by rw [List.length_drop]; omega) (fun x hx => hP x (QgV hx)) q2)
   rw [e] at r
   exact r
theorem Qhm {κ' : β → β → Int} {f : α → β} (h : ∀ a b, κ a b = κ' (f a) (f b)) : ∀ (n : Nat) (L : List α), (msort κ n L).map f = msort κ' n (L.map f)
 | 0, L => rfl
 | n + 1, L => by
  rw [msort, msort, List.length_map]
  split
  ·rfl
  ·rw [QiS h _ _ _ (Nat.le_refl _), Qhm h n, Qhm h n, List.map_take, List.map_drop]
theorem Qde : ∀ (n : Nat) (L : List α), (msort κ n L).length ≤ L.length
 | 0, L => by simp [msort]
 | n + 1, L => by
  rw [msort]
  split
  ·exact Nat.le_refl _
  ·have h := QiR (κ := κ) _ (msort κ n (L.take (L.length / 2))) (msort κ n (L.drop (L.length / 2))) (Nat.le_refl _)
   have h1 := Qde n (L.take (L.length / 2))
   have h2 := Qde n (L.drop (L.length / 2))
   rw [List.length_take] at h1
   rw [List.length_drop] at h2
   omega
end
end
section
open Go Go.Proofs
def Heap.new (H H2 : Heap) : Heap := fun x => if (H x).isSome then none else H2 x
theorem Heap.new_some {H H2 : Heap} {x : Nat} {e : Bool × GO} (h : H2 x = some e) (hn : H x = none) : Heap.new H H2 x = some e := by
 unfold Heap.new; rw [hn]; exact h
theorem Heap.new_inv {H H2 : Heap} {x : Nat} {e : Bool × GO} (h : Heap.new H H2 x = some e) : H x = none ∧ H2 x = some e := by
 unfold Heap.new at h
 cases hx : H x with
 | none => rw [hx] at h; exact ⟨rfl, h⟩
 | some y => rw [hx] at h; cases h
theorem Heap.new_le (H H2 : Heap) : (Heap.new H H2).le H2 := fun x e h => (Heap.new_inv h).2
/-- a row of values that may be written over, with all that is in it: its blocks are N's; k deep at most -/
def Sp (N : Nat → Prop) (H : Heap) : Nat → Sl → Prop
 | 0, t => t.len = 0
 | k + 1, t => t.len = 0 ∨ ∃ (b : Nat) (xs : List TV) (sp : List Value), N b ∧ t.p = some (b, 0) ∧ t.x = none ∧ H b = some (true, .row (xs.flatMap Qa.c ++ sp)) ∧ (t.len ≤ xs.length ∧ xs.length ≤ 1000000) ∧ ∀ x ∈ xs, Sp N H k x.L
section
variable {N M : Nat → Prop} {H H2 : Heap}
theorem Sp.nil (k : Nat) {t : Sl} (h : t.len = 0) : Sp N H k t := by
 cases k with
 | zero => exact h
 | succ k => exact .inl h
theorem Sp.mono : ∀ {k : Nat} {t : Sl}, Sp N H k t → Sp N H (k + 1) t
 | 0, t, h => .inl h
 | k + 1, t, .inl h => .inl h
 | k + 1, t, .inr ⟨b, xs, sp, h1, h2, h3, h4, h5, h6⟩ => .inr ⟨b, xs, sp, h1, h2, h3, h4, h5, fun x hx => Sp.mono (h6 x hx)⟩
theorem Sp.up {k m : Nat} {t : Sl} (h : Sp N H k t) (hk : k ≤ m) : Sp N H m t := by
 induction hk with
 | refl => exact h
 | step _ ih => exact ih.mono
theorem Sp.to (h : ∀ b e, N b → H b = some e → M b ∧ H2 b = some e) : ∀ {k : Nat} {t : Sl}, Sp N H k t → Sp M H2 k t
 | 0, t, h0 => h0
 | k + 1, t, .inl h0 => .inl h0
 | k + 1, t, .inr ⟨b, xs, sp, h1, h2, h3, h4, h5, h6⟩ => .inr ⟨b, xs, sp, (h b _ h1 h4).1, h2, h3, (h b _ h1 h4).2, h5, fun x hx => Sp.to h (h6 x hx)⟩
theorem Sp.all : ∀ {xs : List TV}, (∀ x ∈ xs, ∃ k, Sp N H k x.L) → ∃ k, ∀ x ∈ xs, Sp N H k x.L
 | [], _ => ⟨0, fun x hx => by cases hx⟩
 | y :: xs, h => by
  obtain ⟨k, hk⟩ := h y (List.mem_cons_self ..)
  obtain ⟨m, hm⟩ := Sp.all (xs := xs) fun x hx => h x (List.mem_cons_of_mem _ hx)
  refine ⟨max k m, fun x hx => ?_⟩
  rcases List.mem_cons.1 hx with rfl | hx
  ·exact hk.up (Nat.le_max_left ..)
  ·exact (hm x hx).up (Nat.le_max_right ..)
/-- what a copy is -/
structure Made (H H2 : Heap) (l : List V) (t : Sl) : Prop where
 le : H.le H2
 row : VRow (Heap.new H H2) t l
 sp : ∃ k, Sp (fun b => H b = none) H2 k t
 cp : t.len ≤ t.cap
theorem Made.row2 {l : List V} {t : Sl} (h : Made H H2 l t) : VRow H2 t l := h.row.le (Heap.new_le _ _)
theorem Made.up {H3 : Heap} {l : List V} {t : Sl} (h : Made H H2 l t) (hle : H2.le H3) : Made H H3 l t := by
 refine ⟨h.le.trans hle, h.row.le fun x e hx => ?_, ?_, h.cp⟩
 ·obtain ⟨a, b⟩ := Heap.new_inv hx
  exact Heap.new_some (hle _ _ b) a
 ·obtain ⟨k, hk⟩ := h.sp
  exact ⟨k, hk.to fun b e h he => ⟨h, hle b e he⟩⟩
theorem Made.nil {H : Heap} {t : Sl} (h : t.len = 0) : Made H H [] t := ⟨Heap.le.refl _, ⟨[], .inl rfl, by simpa using h, trivial⟩, ⟨0, h⟩, by omega⟩
theorem Qgr : ∀ l : List V, l.length ≤ vsizes l
 | [] => Nat.le_refl _
 | v :: l => by
  have := Qgr l
  have hv : vsize v = vsizes v.l + 1 := by cases v; rfl
  simp only [vsizes, List.length_cons]; omega
theorem flat4 : ∀ xs : List TV, (xs.flatMap Qa.c).length = xs.length * 4
 | [] => rfl
 | x :: xs => by rw [List.flatMap_cons, List.length_append, flat4 xs, TV.c_len, List.length_cons]; omega
/-- the copy's loop: what stands in the copy's block b over B -/
structure Ow (A H B : Heap) (b i : Nat) (l : List V) (xs ys : List TV) : Prop where
 le : H.le B
 ale : A.le B
 nb : B b = none
 len : ys.length = l.length
 xlen : xs.length = l.length
 old : VsAre A l xs
 rest : ∀ j, i ≤ j → ys[j]? = xs[j]?
 done : ∀ (j : Nat) (v : V) (x : TV), j < i → l[j]? = some v → ys[j]? = some x → VIs (Heap.new H B) v x ∧ ∃ k, Sp (fun c => H c = none) B k x.L
/-- a list that grows: what is made in it stands beside its own block -/
structure Od (H B : Heap) (l : List V) (s : Sl) (ys : List TV) : Prop where
 own : OwnF H B 4 s (ys.flatMap Qa.c)
 le : ys.length ≤ l.length
 done : ∀ (j : Nat) (v : V) (x : TV), l[j]? = some v → ys[j]? = some x → VIs (Heap.new H (B.off s)) v x ∧ ∃ k, Sp (fun c => H c = none) (B.off s) k x.L
theorem Od.nil {l : List V} : Od H H l Sl.nil [] := ⟨OwnF.nil H 4, Nat.zero_le _, fun j v x _ hx => by simp at hx⟩
theorem Od.step {B B2 B3 B4 : Heap} {g : GO} {b : Nat} {l : List V} {s r t : Sl} {ys : List TV} {x : TV} (h : Od H B l s ys) (hb : B b = none) (hi : ys.length < l.length) (hm : Made (B.put b g) B2 l[ys.length].l t)
 (hx : x.Kind = l[ys.length].k ∧ x.N = l[ys.length].n ∧ x.S = l[ys.length].s) (hL : x.L = t) (h3 : Heap.but b B2 B3) (h4 : OwnF (B3.off s) B4 4 r (ys.flatMap Qa.c ++ Qa.c x)) : Od H B4 l r (ys ++ [x]) := by
 have hB2 : B.le B2 := (Heap.le_put hb).trans hm.le
 have hHb : H b = none := h.own.le.none hb
 have hB3 : H.le B3 := Heap.le.of_but (h.own.le.trans hB2) h3 hHb
 have hoff : (B.off s).le (B3.off s) := fun c e hc => by
  have hc' := Heap.off_le _ _ _ _ hc
  have hne : c ≠ b := fun e' => by rw [e', hb] at hc'; cases hc'
  refine Heap.off_some (h3 _ _ hne (hB2 _ _ hc')) fun p hp e' => ?_
  have := Heap.off_fresh s B p hp
  rw [e', hc] at this; cases this
 have h34 : (B3.off s).le (B4.off r) := Heap.le_off h4.le h4.fresh
 have hch : ∀ c e, (B.put b g) c = none → B2 c = some e → H c = none ∧ (B4.off r) c = some e := fun c e hn he => by
  have hne : c ≠ b := fun e' => by rw [e', Heap.put_same] at hn; cases hn
  rw [Heap.put_ne _ _ _ hne] at hn
  refine ⟨h.own.le.none hn, h34 _ _ (Heap.off_some (h3 _ _ hne he) fun p hp e' => ?_)⟩
  obtain ⟨g', hg'⟩ := h.own.own.mine hp
  rw [e', hn] at hg'; cases hg'
 have hnn : (Heap.new H (B.off s)).le (Heap.new H (B4.off r)) := fun c e hc => by
  obtain ⟨a1, a2⟩ := Heap.new_inv hc
  exact Heap.new_some (h34 _ _ (hoff _ _ a2)) a1
 refine ⟨?_, by rw [List.length_append]; exact hi, fun j v y hv hy => ?_⟩
 ·have e : (ys ++ [x]).flatMap Qa.c = ys.flatMap Qa.c ++ Qa.c x := by rw [List.flatMap_append, List.flatMap_singleton]
  rw [e]
  exact h4.down (Heap.le_off hB3 h.own.fresh)
 ·by_cases hj : j < ys.length
  ·rw [List.getElem?_append_left hj] at hy
   obtain ⟨d1, k, d2⟩ := h.done j v y hv hy
   exact ⟨d1.le hnn, k, d2.to fun c e h he => ⟨h, h34 _ _ (hoff _ _ he)⟩⟩
  ·have hjl := (List.getElem?_eq_some_iff.1 hy).1
   rw [List.length_append, List.length_singleton] at hjl
   have hje : j = ys.length := by omega
   subst hje
   rw [List.getElem?_append_right (Nat.le_refl _), Nat.sub_self] at hy
   simp only [List.getElem?_cons_zero, Option.some.injEq] at hy
   rw [List.getElem?_eq_getElem hi] at hv
   have hv := Option.some.inj hv
   subst hy; subst hv
   refine ⟨Qds.2 ⟨hx.1, hx.2.1, hx.2.2, ?_⟩, ?_⟩
   ·rw [hL]
    refine hm.row.le fun c e hc => ?_
    obtain ⟨a1, a2⟩ := Heap.new_inv hc
    obtain ⟨a3, a4⟩ := hch c e a1 a2
    exact Heap.new_some a4 a3
   ·obtain ⟨k, hk⟩ := hm.sp
    rw [hL]
    exact ⟨k, hk.to fun c e h he => hch c e h he⟩
theorem Od.fin {B : Heap} {l : List V} {s : Sl} {ys : List TV} (h : Od H B l s ys) (hn : ys.length = l.length) (hz : l.length ≤ 1000000) : Made H B l s := by
 have hnn : (Heap.new H (B.off s)).le (Heap.new H B) := fun x e hx => by
  obtain ⟨a, c⟩ := Heap.new_inv hx
  exact Heap.new_some (Heap.off_le _ _ _ _ c) a
 have hf := flat4 ys
 obtain ⟨o1, o2, o3, o4⟩ := h.own.own
 have hlen : s.len = ys.length := by omega
 have hvs : VsAre (Heap.new H B) l ys := VsAre.of hn.symm fun i v x hv hx => (h.done i v x hv hx).1.le hnn
 refine ⟨h.own.le, ⟨ys, ?_, hlen, hvs⟩, ?_, o3⟩
 ·rcases o4 with ⟨p0, c0⟩ | ⟨b, sp, hp, hb, hc⟩
  ·left
   have : ys.length = 0 := by omega
   rw [List.length_eq_zero_iff.1 this]; rfl
  ·refine .inr ⟨o2, _, hp, QdR (Heap.new_some hb (h.own.fresh _ hp)) fun j v hj => ?_⟩
   rw [Nat.zero_add, List.getElem?_append_left (List.getElem?_eq_some_iff.1 hj).1]; exact hj
 ·obtain ⟨k, hk⟩ : ∃ k, ∀ x ∈ ys, Sp (fun c => H c = none) B k x.L := Sp.all fun x hx => by
   obtain ⟨j, hj, e⟩ := List.getElem_of_mem hx
   have hl : j < l.length := by rw [← hn]; exact hj
   obtain ⟨_, k, hk⟩ := h.done j l[j] x (List.getElem?_eq_getElem hl) (by rw [List.getElem?_eq_getElem hj, e])
   exact ⟨k, hk.to fun c e h he => ⟨h, Heap.off_le _ _ _ _ he⟩⟩
  refine ⟨k + 1, ?_⟩
  rcases o4 with ⟨p0, c0⟩ | ⟨b, sp, hp, hb, hc⟩
  ·exact .inl (by omega)
  ·exact .inr ⟨b, ys, sp, h.own.fresh _ hp, hp, o2, hb, ⟨by omega, by omega⟩, hk⟩
/-- a list of rows that grows, each a copy -/
structure Og (H B : Heap) (ls : List (List V)) (s : Sl) (ys : List Sl) : Prop where
 own : OwnF H B 1 s (ys.map slv)
 le : ys.length ≤ ls.length
 done : ∀ (j : Nat) (l : List V) (y : Sl), ls[j]? = some l → ys[j]? = some y → Made H (B.off s) l y
theorem Og.nil {ls : List (List V)} : Og H H ls Sl.nil [] := ⟨OwnF.nil H 1, Nat.zero_le _, fun j l y _ hy => by simp at hy⟩
theorem Made.off {B : Heap} {l : List V} {s t : Sl} (h : Made B H2 l t) (hle : H.le B) (hf : Fresh H s) (hs : ∀ p, s.p = some p → ∃ g, B p.1 = some (true, g)) : Made H (H2.off s) l t := by
 have hne : ∀ c, B c = none → ∀ p, s.p = some p → p.1 ≠ c := fun c hc p hp e => by
  obtain ⟨g, hg⟩ := hs p hp
  rw [e, hc] at hg; cases hg
 refine ⟨Heap.le_off (hle.trans h.le) hf, h.row.le fun c e hc => ?_, ?_, h.cp⟩
 ·obtain ⟨a, b⟩ := Heap.new_inv hc
  exact Heap.new_some (Heap.off_some b (hne c a)) (hle.none a)
 ·obtain ⟨k, hk⟩ := h.sp
  exact ⟨k, hk.to fun c e hc he => ⟨hle.none hc, Heap.off_some he (hne c hc)⟩⟩
theorem Og.step {B B2 B4 : Heap} {ls : List (List V)} {s r t : Sl} {ys : List Sl} (h : Og H B ls s ys) (hi : ys.length < ls.length) (hm : Made B B2 ls[ys.length] t) (h4 : OwnF (B2.off s) B4 1 r (ys.map slv ++ [slv t])) : Og H B4 ls r (ys ++ [t]) := by
 have hoff : H.le (B2.off s) := Heap.le_off (h.own.le.trans hm.le) h.own.fresh
 have h34 : (B2.off s).le (B4.off r) := Heap.le_off h4.le h4.fresh
 have h12 : (B.off s).le (B2.off s) := Heap.le_off ((Heap.off_le s B).trans hm.le) (Heap.off_fresh s B)
 refine ⟨?_, by rw [List.length_append]; exact hi, fun j l y hl hy => ?_⟩
 ·have e : (ys ++ [t]).map slv = ys.map slv ++ [slv t] := by simp
  rw [e]; exact h4.down hoff
 ·by_cases hj : j < ys.length
  ·rw [List.getElem?_append_left hj] at hy
   exact (h.done j l y hl hy).up (h12.trans h34)
  ·have hjl := (List.getElem?_eq_some_iff.1 hy).1
   rw [List.length_append, List.length_singleton] at hjl
   have hje : j = ys.length := by omega
   subst hje
   rw [List.getElem?_append_right (Nat.le_refl _), Nat.sub_self] at hy
   simp only [List.getElem?_cons_zero, Option.some.injEq] at hy
   rw [List.getElem?_eq_getElem hi] at hl
   have hl := Option.some.inj hl
   subst hy; subst hl
   exact (hm.off h.own.le h.own.fresh fun p hp => h.own.own.mine hp).up h34
/-- rows in order, each once, in memory of their own -/
structure Srt (H H2 : Heap) (ls : List (List V)) (t : Sl) (A : List (Sl × (List V × Nat))) : Prop where
 own : OwnF H H2 1 t (A.map fun e => slv e.1)
 row : ∀ e ∈ A, Made H (H2.off t) e.2.1 e.1
 rep : Rep (fun a b => cmpR a.1 b.1) (fun a => a.2) ls.zipIdx (A.map fun e => e.2)
 few : A.length ≤ ls.length
theorem QkA {y : TV} : ∀ (xs : List TV) (sp : List Value) (i : Nat), ∃ (xs1 : List TV) (sp1 : List Value), splice (xs.flatMap Qa.c ++ sp) (i * 4) (Qa.c y) = xs1.flatMap Qa.c ++ sp1 ∧ xs1.length = xs.length ∧ ∀ x ∈ xs1, x ∈ xs ∨ x = y
 | [], sp, i => ⟨[], splice sp (i * 4) (Qa.c y), rfl, rfl, fun x hx => by cases hx⟩
 | x :: xs, sp, 0 => ⟨y :: xs, sp, rfl, rfl, fun z hz => by
  rcases List.mem_cons.1 hz with rfl | hz
  ·exact .inr rfl
  ·exact .inl (List.mem_cons_of_mem _ hz)⟩
 | x :: xs, sp, i + 1 => by
  obtain ⟨xs1, sp1, h1, h2, h3⟩ := QkA (y := y) xs sp i
  refine ⟨x :: xs1, sp1, ?_, by simp [h2], fun z hz => ?_⟩
  ·rw [List.flatMap_cons, List.flatMap_cons, List.append_assoc, List.append_assoc, ← h1]
   have e : (i + 1) * 4 = (Qa.c x).length + i * 4 := by rw [TV.c_len]; omega
   unfold splice
   rw [e, List.take_length_add_append, Nat.add_assoc, List.drop_length_add_append]
   simp only [List.append_assoc]
  ·rcases List.mem_cons.1 hz with rfl | hz
   ·exact .inl (List.mem_cons_self ..)
   ·exact (h3 z hz).imp (List.mem_cons_of_mem _) id
/-- a value written over in a row keeps all rows such -/
theorem Sp.put {b i : Nat} {cs : List Value} {y : TV} (hb : H b = some (true, .row cs)) (hy : y.L.len = 0) : ∀ {k : Nat} {t : Sl}, Sp N H k t → Sp N (H.put b (.row (splice cs (i * 4) (Qa.c y)))) k t
 | 0, t, h => h
 | k + 1, t, .inl h => .inl h
 | k + 1, t, .inr ⟨c, xs, sp, h1, h2, h3, h4, h5, h6⟩ => by
  by_cases hc : c = b
  ·subst hc
   rw [h4] at hb
   injection hb with hb; injection hb with _ hb; injection hb with hb
   subst hb
   obtain ⟨xs1, sp1, e1, e2, e3⟩ := QkA (y := y) xs sp i
   refine .inr ⟨c, xs1, sp1, h1, h2, h3, by rw [Heap.put_same, e1], by rw [e2]; exact h5, fun x hx => ?_⟩
   rcases e3 x hx with hx | rfl
   ·exact Sp.put h4 hy (h6 x hx)
   ·exact Sp.nil k hy
  ·exact .inr ⟨c, xs, sp, h1, h2, h3, by rw [Heap.put_ne _ _ _ hc]; exact h4, h5, fun x hx => Sp.put hb hy (h6 x hx)⟩
end
end
section
open Go Go.Proofs
section
variable {C : Ctx} {H : Heap}
end
end
section
open Go
theorem QdH {n : Nat} (h : n < 256) : (UInt8.ofNat n).toNat = n := by rw [UInt8.toNat_ofNat']; omega
def valN (l : Str) : Nat := l.foldl (fun a c => 10 * a + (c.toNat - 48)) 0
theorem QmK (u : Nat) : valN (Lib.decDigits u) = u := by
 induction u using Nat.strongRecOn with
 | _ u ih =>
  rw [Lib.decDigits]
  split
  ·rename_i h
   have := QdH (n := 48 + u) (by omega)
   simp only [valN, List.foldl_cons, List.foldl_nil, this]; omega
  ·rename_i h
   have e := ih (u / 10) (by omega)
   have := QdH (n := 48 + u % 10) (by omega)
   unfold valN at e ⊢
   rw [List.foldl_append, e]
   simp only [List.foldl_cons, List.foldl_nil, this]; omega
theorem Qkh (u : Nat) : (∀ c ∈ Lib.decDigits u, digC c = true) ∧ Lib.decDigits u ≠ [] := by
 induction u using Nat.strongRecOn with
 | _ u ih =>
  rw [Lib.decDigits]
  split
  ·rename_i h
   refine ⟨fun c hc => ?_, by simp⟩
   rw [List.mem_singleton] at hc
   subst hc
   have := QdH (n := 48 + u) (by omega)
   unfold digC
   rw [this]
   simp only [Bool.and_eq_true, decide_eq_true_eq]; omega
  ·rename_i h
   refine ⟨fun c hc => ?_, by simp⟩
   rw [List.mem_append, List.mem_singleton] at hc
   rcases hc with hc | rfl
   ·exact (ih (u / 10) (by omega)).1 c hc
   ·have := QdH (n := 48 + u % 10) (by omega)
    unfold digC
    rw [this]
    simp only [Bool.and_eq_true, decide_eq_true_eq]; omega
theorem QmJ {u v : Nat} (h : Lib.decDigits u = Lib.decDigits v) : u = v := by rw [← QmK u, h, QmK v]
theorem Qkk {m n : Int} (h : Lib.itoa m = Lib.itoa n) : m = n := by
 have ne : ∀ u v : Nat, (45 : UInt8) :: Lib.decDigits u ≠ Lib.decDigits v := fun u v e => by
  have := (Qkh v).1 45 (by rw [← e]; exact List.mem_cons_self ..)
  exact absurd this (by decide)
 unfold Lib.itoa at h
 split at h <;> split at h
 ·injection h with _ h
  have := QmJ h; omega
 ·exact absurd h (ne _ _)
 ·exact absurd h.symm (ne _ _)
 ·have := QmJ h; omega
theorem Ql7 {n : Int} {c : UInt8} (h : c ∈ Lib.itoa n) : digC c = true ∨ c = 45 := by
 unfold Lib.itoa at h
 split at h
 ·rcases List.mem_cons.1 h with h | h
  ·exact .inr h
  ·exact .inl ((Qkh _).1 c h)
 ·exact .inl ((Qkh _).1 c h)
theorem Qld (n : Int) : Lib.itoa n ≠ [] := by
 unfold Lib.itoa
 split
 ·simp
 ·exact (Qkh _).2
end
section
open Go Go.Proofs
section
variable {C : Ctx} {H : Heap}
theorem Qgs {b : Nat} {p : Option (Nat × Nat)} {s : Sl} {K : Heap → Prop} (hb : H b = some (true, .trow tyB 0 [pv p, slv s])) (hp : p = none ∨ p = some (b, 0)) (k : K (H.put b (.trow tyB 0 [pv (some (b, 0)), slv s]))) : Qy C (some (b, 0)) K H := by
 apply Qb2
 unfold QaC
 refine ⟨_, rfl, p, by simp [rd, hb, GO.cells?], ?_⟩
 rcases hp with rfl | rfl
 ·exact QE rfl ⟨(b, 0), rfl, ⟨true, _, 0, _, hb, by simp⟩, ⟨true, 0, _, hb, rfl, rfl⟩, _, rfl, _, 0, _, hb, Nat.le_refl _, by simp, k⟩
 ·refine Qd rfl ⟨_, rfl, some (b, 0), by simp [rd, hb, GO.cells?], (b, 0), rfl, rfl, Qd rfl ?_⟩
  have : H.put b (.trow tyB 0 [pv (some (b, 0)), slv s]) = H := Heap.put_id hb
  rw [this] at k; exact k
theorem Qih {H : Heap} {b : Nat} {p : Option (Nat × Nat)} {s : Sl} {t : TypeId} (hb : H b = some (true, .trow t 0 [pv p, slv s])) : rd H (b, 0 + 1) = some (slv s) := by simp [rd, hb, GO.cells?]
theorem QcS {b : Nat} {bs c : Str} {K : Int → Value → Heap → Prop} (h : IsB tyB tyE H b bs) (hl : bs.length + c.length ≤ 140737488355328) (k : K (c.length : Int) .nilIface (H.put b (Bd (bs ++ c)))) : Qe C (some (b, 0)) c K H := by
 apply Qe.gh
 refine h.open_ fun p s H' ho => ?_
 refine QbJ _ _ _ _ _ ?_
 unfold Qak
 refine Qgs ho.row ho.self ?_
 have ho2 := ho.setP (p2 := some (b, 0)) (.inr rfl)
 refine ⟨_, rfl, s, Qih ho2.row, ?_⟩
 refine ho2.apd (by obtain ⟨g, hg⟩ := h.some; exact ⟨_, hg⟩) (ys := c) hl fun r H3 h3 hr => ?_
 exact ⟨_, rfl, _, 0, _, hr, Nat.zero_le _, by simp, _, Gh.hideB h3, k⟩
theorem QkV {b : Nat} {bs : Str} {K : Str → Heap → Prop} (h : IsB tyB tyE H b bs) (hl : bs.length ≤ 9223372036854775807) (k : K bs (H.put b (Bd bs))) : Qj C (some (b, 0)) K H := by
 apply Qj.gh
 refine h.open_ fun p s H' ho => ?_
 refine QcU _ _ _ _ ?_
 unfold Qa1
 obtain ⟨e1, e2, e3⟩ := ho.slen
 have hrd : rd (H'.hide s) (b, 0 + 1) = some (slv s) := by
  have : (H'.hide s) b = H' b := by
   unfold Heap.hide
   split
   ·rename_i q hq; rw [if_neg (fun e => ho.ne q hq e.symm)]
   ·rfl
  simp [rd, this, ho.row, GO.cells?]
 refine ⟨H'.hide s, Heap.hide_le _ _, _, rfl, s, hrd, ⟨e3, e2⟩, _, rfl, s, hrd, ?_⟩
 rcases ho.buf with ⟨rfl, rfl⟩ | ⟨g, kk, row, hg, rfl, hgr, hk, hr0, hrl, hcs⟩
 ·exact .inl ⟨rfl, Heap.hide_le _ _, _, Gh.hideB ho, k⟩
 ·by_cases h0 : bs = []
  ·subst h0
   exact .inl ⟨rfl, Heap.hide_le _ _, _, Gh.hideB ho, k⟩
  ·refine .inr ⟨g, kk, row, bs, rfl, hgr, rfl, h0, hl, hcs, fun x v hx => ?_, _, Gh.hideB (b := b) (T := tyB) (e := tyE) (bs := bs) (p := p) (s := ⟨some (g, 0), bs.length, row.length, none⟩) ?_, k⟩
   ·have hxg : x ≠ g := fun e => by subst e; simp [Heap.hide] at hx
    rw [Heap.put_ne _ _ _ hxg]; exact (Heap.hide_le _ _) _ _ hx
   ·refine ⟨ho.self, by rw [Heap.put_ne _ _ _ (Ne.symm hg)]; exact ho.row, .inr ⟨g, max kk bs.length, row, hg, rfl, Heap.put_same .., by omega, hr0, hrl, hcs⟩, ho.gnot, fun x v hx hv => ?_⟩
    have hxg : x ≠ g := fun e => by subst e; have := ho.gnot (x, 0) rfl; dsimp only at this; rw [this] at hv; cases hv
    rw [Heap.put_ne _ _ _ hxg]; exact ho.but x v hx hv
/-- Grow of a new builder -/
theorem QlR {b : Nat} {n : Nat} {K : Heap → Prop} (h : H b = some (true, .trow tyB 0 [pv none, slv Sl.nil])) (hl : n ≤ 140737488355328) (k : K (H.put b (Bd []))) : Qo C (some (b, 0)) (n : Int) K H := by
 apply Qo.gh
 apply Qdu
 unfold Qbv
 refine Qgs h (.inl rfl) ?_
 refine Qd (decide_eq_false (by omega)) ?_
 have hrow : (H.put b (.trow tyB 0 [pv (some (b, 0)), slv Sl.nil])) b = some (true, .trow tyB 0 [pv (some (b, 0)), slv Sl.nil]) := Heap.put_same ..
 refine ⟨_, rfl, Sl.nil, Qih hrow, _, rfl, Sl.nil, Qih hrow, ?_⟩
 have e0 : w .i64 (((Sl.nil.cap : Nat) : Int) - ((Sl.nil.len : Nat) : Int)) = 0 := Qm (x := 0) (by omega) (by omega)
 dsimp only
 rw [e0]
 refine ift.of (fun hn => ?_) (fun hn => ?_)
 ·apply Qu.gh
  apply Qdv
  unfold Qbw
  refine ⟨_, Heap.le.refl _, _, rfl, Sl.nil, Qih hrow, _, rfl, Sl.nil, Qih hrow, ?_⟩
  have hn0 : 0 < n := by have := of_decide_eq_true hn; omega
  have e1 : w .i64 (w .i64 (2 * ((Sl.nil.cap : Nat) : Int)) + (n : Int)) = (n : Int) := by
   have : w .i64 (2 * ((Sl.nil.cap : Nat) : Int)) = 0 := Qm (x := 0) (by omega) (by omega)
   rw [this, Int.zero_add]; exact Qm (by omega) (by omega)
  dsimp only
  rw [e1]
  refine ⟨by omega, by omega, fun g row hg hrl => ?_⟩
  rw [Int.toNat_natCast] at hrl ⊢
  have hgb : g ≠ b := fun e => by subst e; rw [hrow] at hg; cases hg
  refine ⟨Heap.le_put hg, by omega, by show (0 : Int) ≤ 0; omega, by show (0 : Int) ≤ (row.length : Int); omega, by show (row.length : Int) ≤ (row.length : Int); omega, _, rfl, ?_⟩
  have hrow2 : ((H.put b (.trow tyB 0 [pv (some (b, 0)), slv Sl.nil])).put g (.trow 5 0 row)) b = some (true, .trow tyB 0 [pv (some (b, 0)), slv Sl.nil]) := by rw [Heap.put_ne _ _ _ (Ne.symm hgb)]; exact hrow
  refine ⟨_, rfl, Sl.nil, Qih hrow2, [], .inl rfl, by simp [Sl.nil], by simp, .inl ⟨rfl, ?_⟩⟩
  refine ⟨_, rfl, _, 0, _, hrow2, Nat.zero_le _, by simp, _, Gh.refl _, ?_⟩
  refine ⟨_, Gh.hideB (b := b) (T := tyB) (e := tyE) (bs := []) (p := some (b, 0)) (s := ⟨some (g, 0), 0, row.length, none⟩) ⟨.inr rfl, ?_, .inr ⟨g, 0, row, hgb, rfl, ?_, Nat.zero_le _, by omega, Nat.zero_le _, fun j c hj => by simp at hj⟩, fun q hq => ?_, fun x v hx hv => ?_⟩, k⟩
  ·rw [Heap.put_same]
   have e2 : ¬ ((row.length : Int) = 0) := by omega
   simp [Sl.of, Sl.nil, e2]
  ·rw [Heap.put_ne _ _ _ hgb, Heap.put_same]
  ·injection hq with hq; subst hq
   have := hg
   rwa [Heap.put_ne _ _ _ hgb] at this
  ·have hxg : x ≠ g := fun e => by subst e; rw [Heap.put_ne _ _ _ hx, hv] at hg; cases hg
   rw [Heap.put_ne _ _ _ hx, Heap.put_ne _ _ _ hxg, Heap.put_ne _ _ _ hx]; exact hv
 ·refine ⟨_, Gh.hideB (b := b) (T := tyB) (e := tyE) (bs := []) (p := some (b, 0)) (s := Sl.nil) ⟨.inr rfl, hrow, .inl ⟨rfl, rfl⟩, fun q hq => (by cases hq), fun x v hx hv => ?_⟩, k⟩
  rw [Heap.put_ne _ _ _ hx]; exact hv
end
end
end Sx
end
