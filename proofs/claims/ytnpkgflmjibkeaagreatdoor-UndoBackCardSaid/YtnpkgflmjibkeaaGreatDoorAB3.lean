/-
  Texts of this family, one behind the other: Sh, FmtI, SrtL, SrkL, SrtT, ValQ, ValU, ValP1, ValP2, ValP3, ValP4, ValP5, ValR, ValW, ValX, ValC1, ValO1, SortP, SortQ, ValM, ValN1, ShowQ, BldB, ShowP, ValN2, ValH, UdQ.
-/
import Derived.Test.YtnpkgflmjibkeaaGreatDoorAB2
import Derived.Shelf.Strconv.Itoa4
import Derived.Shelf.SlSortCmp.NoneTotal
import Derived.Shelf.Sort.Plain
import Derived.Shelf.Slices.In.SortNone
import Derived.Lib.ItoaNum
import Derived.Lib.ItoaLen
noncomputable section
set_option linter.unusedVariables false
set_option linter.unusedSimpArgs false
set_option maxRecDepth 10000
namespace Sx
section
set_option maxRecDepth 100000
open Go Go.Proofs
def Qdv (C : Ctx) (p_v : Qa) (v0 : Nat × Nat) (v1 : Nat × Nat) (K : Heap → Prop) (H : Heap) : Prop :=
 nw (Qa.c p_v) (fun b1 H2 =>
 ldI H2 .u8 ((b1, 0).1, (b1, 0).2 + 0) fun x3 =>
 ift ((x3 : Int) == 1)
 (ldI H2 .i64 ((b1, 0).1, (b1, 0).2 + 1) fun x6 =>
 QaS C ((x6 : Int) == 1) (fun r8 H9 =>
 Qh C (some v0) r8 (fun r10 r11 H12 =>
 K H12) H9) H2)
 (ift ((x3 : Int) == 2)
 (ldI H2 .i64 ((b1, 0).1, (b1, 0).2 + 1) fun x14 =>
 QbU C x14 10 (fun r16 H17 =>
 Qh C (some v0) r16 (fun r18 r19 H20 =>
 K H20) H17) H2)
 (ift ((x3 : Int) == 3)
 (ldS H2 ((b1, 0).1, (b1, 0).2 + 2) fun x22 =>
 Qh C (some v0) x22 (fun r24 r25 H26 =>
 Qf C (some v0) 98 (fun r27 H28 =>
 K H28) H26) H2)
 (ift ((x3 : Int) == 4)
 (ldS H2 ((b1, 0).1, (b1, 0).2 + 2) fun x30 =>
 QcR C (some v0) x30 (fun H32 =>
 K H32) H2)
 (ift ((x3 : Int) == 5)
 (ldV H2 v1 fun x34 =>
 ldL H2 ((b1, 0).1, (b1, 0).2 + 3) fun x36 =>
 callU Tryz.prog C x34 [slv x36] H2 (fun v H38 => v = .tuple #[] ∧
 K H38))
 (ldS H2 ((b1, 0).1, (b1, 0).2 + 2) fun x39 =>
 Qh C (some v0) x39 (fun r41 r42 H43 =>
 ldL H43 ((b1, 0).1, (b1, 0).2 + 3) fun x44 =>
 ift (decide (((Sl.len x44 : Int) : Int) > 0))
 (ldV H43 v1 fun x47 =>
 ldL H43 ((b1, 0).1, (b1, 0).2 + 3) fun x49 =>
 callU Tryz.prog C x47 [slv x49] H43 (fun v H51 => v = .tuple #[] ∧
 K H51))
 (K H43)) H2)))))) H
theorem Qfl (C p_v v0 v1 K H) (h : Qdv C p_v v0 v1 K H) : QaV C p_v v0 v1 K H := by
 refine Ye Tryz.func98 rfl Tryz.ntmps98 [(0, .agg (Qa.c p_v).toArray), (1, pv (some v0)), (2, pv (some v1))] (Zo (GL.box (v := .agg (Qa.c p_v).toArray) (cs := Qa.c p_v) h trivial rfl rfl rfl ?_))
 intro b1 H2 h
 refine GL.nil (Zo (Zf (Yl h fun x3 h => ?_)))
 refine GL.nil (GC.block (Zo (Zi (.bool ((x3 : Int) == 1)) (Za (GL.nil (Yd h (fun u5 h => ?_) fun u5 h => ?_))))))
 refine GC.region (Zf (Yl h fun x6 h => ?_))
 refine Zi (.bool ((x6 : Int) == 1)) (Zc h Qdj ?_)
 rintro _ H9 ⟨r8, rfl, h⟩
 refine Zc h Qk ?_
 rintro _ H12 ⟨r10, r11, rfl, h⟩
 exact GL.ends (fun _ _ hf hs => QB rfl hf hs ⟨rfl, h⟩)
 refine Zo (Zi (.bool ((x3 : Int) == 2)) (Za (GL.nil (Yd h (fun u13 h => ?_) fun u13 h => ?_))))
 refine GC.region (Zf (Yl h fun x14 h => ?_))
 refine Zc h QdK ?_
 rintro _ H17 ⟨r16, rfl, h⟩
 refine Zc h Qk ?_
 rintro _ H20 ⟨r18, r19, rfl, h⟩
 exact GL.ends (fun _ _ hf hs => QB rfl hf hs ⟨rfl, h⟩)
 refine Zo (Zi (.bool ((x3 : Int) == 3)) (Za (GL.nil (Yd h (fun u21 h => ?_) fun u21 h => ?_))))
 refine Zo (Zf (Yl h fun x22 h => ?_))
 refine Zc h Qk ?_
 rintro _ H26 ⟨r24, r25, rfl, h⟩
 refine GL.nil (GC.region (Zc h Qj ?_))
 rintro _ H28 ⟨r27, rfl, h⟩
 exact GL.ends (fun _ _ hf hs => QB rfl hf hs ⟨rfl, h⟩)
 refine Zo (Zi (.bool ((x3 : Int) == 4)) (Za (GL.nil (Yd h (fun u29 h => ?_) fun u29 h => ?_))))
 refine GC.region (Zf (Yl h fun x30 h => ?_))
 refine Zc h Qf3 ?_
 rintro _ H32 ⟨rfl, h⟩
 exact GL.ends (fun _ _ hf hs => QB rfl hf hs ⟨rfl, h⟩)
 refine Zo (Zi (.bool ((x3 : Int) == 5)) (Za (GL.nil (Yd h (fun u33 h => ?_) fun u33 h => ?_))))
 refine GC.region (Yl h fun x34 h => ?_)
 refine Zf (Yl h fun x36 h => ?_)
 refine GL.callU (xv := x34) (vs := [slv x36]) h trivial rfl rfl rfl ?_
 rintro _ H38 ⟨rfl, h⟩
 exact GL.ends (fun _ _ hf hs => QB rfl hf hs ⟨rfl, h⟩)
 refine Zo (Zf (Yl h fun x39 h => ?_))
 refine Zc h Qk ?_
 rintro _ H43 ⟨r41, r42, rfl, h⟩
 refine GL.nil (Zo (Zf (Yl h fun x44 h => ?_)))
 refine Zq (Zi (.bool (decide (((Sl.len x44 : Int) : Int) > 0))) (GL.nil (Yd h (fun u46 h => ?_) fun u46 h => ?_)))
 refine GC.region (Yl h fun x47 h => ?_)
 refine Zf (Yl h fun x49 h => ?_)
 refine GL.callU (xv := x47) (vs := [slv x49]) h trivial rfl rfl rfl ?_
 rintro _ H51 ⟨rfl, h⟩
 exact GL.ends (fun _ _ hf hs => QB rfl hf hs ⟨rfl, h⟩)
 exact GC.ends (fun _ _ hf hs => QB rfl hf hs ⟨rfl, h⟩)
def Qbv (C : Ctx) (p_b : Bool) (K : Str → Heap → Prop) (H : Heap) : Prop :=
 Qal C p_b (fun r1 H2 =>
 K r1 H2) H
theorem Qde (C p_b K H) (h : Qbv C p_b K H) : QaS C p_b K H := by
 refine Ye Tryz.func99 rfl Tryz.ntmps99 [(0, .bool p_b)] (Zo (Za (GL.nil (Zo (Zm (Zc h Qbt ?_))))))
 rintro _ H2 ⟨r1, rfl, h⟩
 refine Za (GL.nil ?_)
 exact Y1 I3 ⟨r1, rfl, h⟩
def QdZ (C : Ctx) (p_b : Option (Nat × Nat)) (p_s : Str) (K : Heap → Prop) (H : Heap) : Prop :=
 Qf C p_b 34 (fun r1 H2 =>
 lp (α := Int) 0 H2 (fun x3 J4 H5 =>
 ift (decide ((x3 : Int) < (List.length p_s : Int)))
 (jn (α := Unit) (fun x8 H9 =>
 J4 (w .i64 (x3 + 1)) H9)
 (fun J7 => ixs p_s x3 fun c11 =>
 ift ((((c11.toNat : Int) : Int) == 34) || (((c11.toNat : Int) : Int) == 92))
 (Qf C p_b 92 (fun r16 H17 =>
 Qf C p_b (c11.toNat : Int) (fun r18 H19 =>
 J7 () H19) H17) H5)
 (ift (((c11.toNat : Int) : Int) == 10)
 (Qh C p_b [92, 110] (fun r21 r22 H23 =>
 J7 () H23) H5)
 (ift (((c11.toNat : Int) : Int) == 9)
 (Qh C p_b [92, 116] (fun r25 r26 H27 =>
 J7 () H27) H5)
 (ift ((decide (((c11.toNat : Int) : Int) ≥ 32)) && (decide (((c11.toNat : Int) : Int) ≤ 126)))
 (Qf C p_b (c11.toNat : Int) (fun r30 H31 =>
 J7 () H31) H5)
 (Qh C p_b [92, 120] (fun r32 r33 H34 =>
 ixs [48, 49, 50, 51, 52, 53, 54, 55, 56, 57, 97, 98, 99, 100, 101, 102] (sShr .u8 (c11.toNat : Int) 4) fun c35 =>
 Qf C p_b (c35.toNat : Int) (fun r38 H39 =>
 ixs [48, 49, 50, 51, 52, 53, 54, 55, 56, 57, 97, 98, 99, 100, 101, 102] (bAnd .u8 (c11.toNat : Int) 15) fun c40 =>
 Qf C p_b (c40.toNat : Int) (fun r43 H44 =>
 J7 () H44) H39) H34) H5))))))
 (Qf C p_b 34 (fun r45 H46 =>
 K H46) H5))) H
theorem Qf0 (C p_b p_s K H) (h : QdZ C p_b p_s K H) : QcR C p_b p_s K H := by
 refine Ye Tryz.func101 rfl Tryz.ntmps101 [(0, pv p_b), (1, sv p_s)] (Zo (Zm (Zc h Qj ?_)))
 rintro _ H2 ⟨r1, rfl, h⟩
 refine GL.nil (GC.seq (Zo (Zm (Zr (Zm (GL.nil (GC.block (Yp h (fun x3 => [(10, .int .i64 x3), (0, pv p_b), (1, sv p_s), (9, .int .i64 (List.length p_s : Int))]) ?_))))))))
 intro x3 H5 J4 h
 refine Zo (Zi (.bool (decide ((x3 : Int) < (List.length p_s : Int)))) (GL.nil (GC.seq (Yd h (fun hc6 h => ?_) fun hc6 h => ?_))))
 refine GC.skip ?_
 obtain ⟨J7, h, hR10⟩ := h
 refine GC.join (α := Unit) J7 (fun _ => [(0, pv p_b), (1, sv p_s), (9, .int .i64 (List.length p_s : Int)), (10, .int .i64 x3)]) ?_ ?_
 refine GC.block (Zo (Zm (Za (GL.nil (Zo (Zm (Zm (Ys h fun c11 h => ?_))))))))
 refine Za (GL.nil (GC.block (Zo (Zm (Zi (.bool (((c11.toNat : Int) : Int) == 34)) (Zm (GL.cut0 3 [(34, .bool ((((c11.toNat : Int) : Int) == 34) || (((c11.toNat : Int) : Int) == 92))), (0, pv p_b), (1, sv p_s), (5, .int .u8 (c11.toNat : Int)), (9, .int .i64 (List.length p_s : Int)), (10, .int .i64 x3)] ?_ ?_)))))))
 rcases Zb (((c11.toNat : Int) : Int) == 34) with hc14 | hc14
 refine Zk hc14 (Zk hc14 (Zt hc14 ?_))
 exact GL.jump0 (fun _ _ h => h) () rfl ⟨(by rw [hc14]; rfl), rfl, rfl, rfl, rfl, rfl, trivial⟩
 refine Zu hc14 Ym (Zu hc14 (OV.ibin (v := .bool (((c11.toNat : Int) : Int) == 92)) rfl rfl rfl) (Zn hc14 ?_))
 exact GL.jump0 (fun _ _ h => h) () rfl ⟨(by rw [hc14]; rfl), rfl, rfl, rfl, rfl, rfl, trivial⟩
 refine Za (GL.nil (Yd h (fun hc15 h => ?_) fun hc15 h => ?_))
 refine Zo (Zm (Zc h Qj ?_))
 rintro _ H17 ⟨r16, rfl, h⟩
 refine GL.nil (GC.region (Zm (Zm (Zc h Qj ?_))))
 rintro _ H19 ⟨r18, rfl, h⟩
 exact Yj I3 () h
 refine Zo (Zm (Zi (.bool (((c11.toNat : Int) : Int) == 10)) (Za (GL.nil (Yd h (fun hc20 h => ?_) fun hc20 h => ?_)))))
 refine GC.region (Zm (Zc h Qk ?_))
 rintro _ H23 ⟨r21, r22, rfl, h⟩
 exact Yj I3 () h
 refine Zo (Zm (Zi (.bool (((c11.toNat : Int) : Int) == 9)) (Za (GL.nil (Yd h (fun hc24 h => ?_) fun hc24 h => ?_)))))
 refine GC.region (Zm (Zc h Qk ?_))
 rintro _ H27 ⟨r25, r26, rfl, h⟩
 exact Yj I3 () h
 refine Zo (Zm (Zi (.bool (decide (((c11.toNat : Int) : Int) ≥ 32))) (Zm (GL.cut0 3 [(56, .bool ((decide (((c11.toNat : Int) : Int) ≥ 32)) && (decide (((c11.toNat : Int) : Int) ≤ 126)))), (0, pv p_b), (1, sv p_s), (5, .int .u8 (c11.toNat : Int)), (9, .int .i64 (List.length p_s : Int)), (10, .int .i64 x3)] ?_ ?_))))
 rcases Zb (decide (((c11.toNat : Int) : Int) ≥ 32)) with hc28 | hc28
 refine Zu hc28 Ym (Zu hc28 (OV.ibin (v := .bool (decide (((c11.toNat : Int) : Int) ≤ 126))) rfl rfl rfl) (Zt hc28 ?_))
 exact GL.jump0 (fun _ _ h => h) () rfl ⟨(by rw [hc28]; rfl), rfl, rfl, rfl, rfl, rfl, trivial⟩
 refine Zk hc28 (Zk hc28 (Zn hc28 ?_))
 exact GL.jump0 (fun _ _ h => h) () rfl ⟨(by rw [hc28]; rfl), rfl, rfl, rfl, rfl, rfl, trivial⟩
 refine Za (GL.nil (Yd h (fun hc29 h => ?_) fun hc29 h => ?_))
 refine GC.region (Zm (Zm (Zc h Qj ?_)))
 rintro _ H31 ⟨r30, rfl, h⟩
 exact Yj I3 () h
 refine Zo (Zm (Zc h Qk ?_))
 rintro _ H34 ⟨r32, r33, rfl, h⟩
 refine GL.nil (Zo (Zm (Zm (Zv (OV.shr rfl rfl (by decide)) (Ys h fun c35 h => ?_)))))
 refine Zc h Qj ?_
 rintro _ H39 ⟨r38, rfl, h⟩
 refine GL.nil (GC.region (Zm (Zm (Zi (.int .u8 (bAnd .u8 (c11.toNat : Int) 15)) (Ys h fun c40 h => ?_)))))
 refine Zc h Qj ?_
 rintro _ H44 ⟨r43, rfl, h⟩
 exact Yj I3 () h
 intro x8 H9 h
 replace h := hR10 x8 H9 h
 refine GC.region (Zi (.int .i64 (w .i64 (x3 + 1))) (Zm ?_))
 exact Yj I3 (w .i64 (x3 + 1)) h
 refine GC.exit_to (fun _ _ h => h) (GC.region (Zm (Zc h Qj ?_)))
 rintro _ H46 ⟨r45, rfl, h⟩
 exact GL.ends (fun _ _ hf hs => QB rfl hf hs ⟨rfl, h⟩)
def QaX (C : Ctx) (p_b : Option (Nat × Nat)) (K : Str → Heap → Prop) (H : Heap) : Prop :=
 dr H fun Hs1 =>
 nck p_b fun p3 =>
 ldL Hs1 (p3.1, p3.2 + 1) fun x5 =>
 ((Sl.p x5 = none ∨ Sl.cap x5 ≠ 0) ∧ Sl.x x5 = none) ∧
 nck p_b fun p9 =>
 ldL Hs1 (p9.1, p9.2 + 1) fun x11 =>
 ust 5 (Sl.p x5) (Sl.len x11 : Int) (fun r14 H15 =>
 Heap.le Hs1 H15 ∧
 K r14 H15) H
theorem Qcj (C p_b K H) (h : QaX C p_b K H) : Qp C p_b K H := by
 refine Ye Tryz.func102 rfl Tryz.ntmps102 [(0, pv p_b)] (Zo (Za (GL.nil (GC.seq ?_))))
 obtain ⟨Hs1, hle2, h⟩ := h
 refine GC.any (Hs := Hs1) (by kernel_rfl) hle2 (Zp 0 rfl Ym ?_)
 obtain ⟨p3, hp4, h⟩ := h
 refine Zp 1 rfl (OV.nilCheck (q := p_b) rfl hp4) (Zp 2 rfl Yf ?_)
 obtain ⟨x5, v6, h⟩ := h
 refine Zp 3 rfl (Yo v6) ?_
 obtain ⟨⟨h7, h8⟩, h⟩ := h
 refine Zp 4 rfl (OV.usd (s := x5) h7 h8 rfl) (Zp 5 rfl Ym ?_)
 obtain ⟨p9, hp10, h⟩ := h
 refine Zp 6 rfl (OV.nilCheck (q := p_b) rfl hp10) (Zp 7 rfl Yf ?_)
 obtain ⟨x11, v12, h⟩ := h
 refine Zp 8 rfl (Yo v12) (Zp 9 rfl (OV.lenSl rfl rfl) (GA.eff 10 rfl (by kernel_rfl) (GL.ust (e := 5) (p := (Sl.p x5)) (m := (Sl.len x11 : Int)) h trivial rfl rfl rfl rfl (by kernel_rfl) ?_)))
 intro r14 H15 h
 obtain ⟨hle13, h⟩ := h
 refine GA.back hle13 (Zp 11 rfl Ya (GA.done (by kernel_rfl) (GL.nil ?_)))
 exact Y1 I3 ⟨r14, rfl, h⟩
def QQ (C : Ctx) (p_s : Sl) (p_f : Value) (K : Int → Heap → Prop) (H : Heap) : Prop :=
 lp (α := Int) 0 H (fun x1 J2 H3 =>
 ift (decide ((x1 : Int) < (Sl.len p_s : Int)))
 (ixa p_s x1 fun p5 =>
 ldT H3 Qa.c (p5.1, p5.2 + (x1 : Int).toNat * 4) fun x10 =>
 callU Tryz.prog C p_f [.agg (Qa.c x10).toArray] H3 (fun v H13 => ∃ (r12 : Bool), v = .bool r12 ∧
 ift r12
 (K x1 H13)
 (J2 (w .i64 (x1 + 1)) H13)))
 (K (-1) H3))
theorem QaE (C p_s p_f K H) (h : QQ C p_s p_f K H) : Qu C p_s p_f K H := by
 refine Ye Tryz.func131 rfl Tryz.ntmps131 [(0, slv p_s), (1, p_f)] (Zo (Za (GL.nil (GC.seq (Zo (Zm (Zq (Zm (GL.nil (GC.block (Yp h (fun x1 => [(8, .int .i64 x1), (0, slv p_s), (1, p_f), (7, .int .i64 (Sl.len p_s : Int))]) ?_)))))))))))
 intro x1 H3 J2 h
 refine Zo (Zi (.bool (decide ((x1 : Int) < (Sl.len p_s : Int)))) (GL.nil (GC.seq (Yd h (fun u4 h => ?_) fun u4 h => ?_))))
 refine GC.skip (GC.seq (GC.block (Zo (Zm (Za (GL.nil (Zo (Zm (Zm (Zm (Yx h fun p5 h => ?_)))))))))))
 obtain ⟨x10, v11, h⟩ := h
 refine Zv (OV.loadT rfl rfl rfl v11) (GL.callU (xv := p_f) (vs := [.agg (Qa.c x10).toArray]) h trivial rfl rfl rfl ?_)
 rintro _ H13 ⟨r12, rfl, h⟩
 refine GL.nil (Yd h (fun u14 h => ?_) fun u14 h => ?_)
 refine Zo (Zm (Za (GL.nil ?_)))
 exact Y1 I3 ⟨x1, rfl, h⟩
 refine GC.skip_to (fun _ _ h => h) (GC.region (Zi (.int .i64 (w .i64 (x1 + 1))) (Zm ?_)))
 exact Yj I3 (w .i64 (x1 + 1)) h
 refine GC.exit_to (fun _ _ h => h) (Zo (Za (GL.nil ?_)))
 exact Y1 I3 ⟨(-1), rfl, h⟩
def QbG (C : Ctx) (p_x : Int) (p_y : Int) (K : Int → Heap → Prop) (H : Heap) : Prop :=
 QaN C p_x (fun r1 H2 =>
 QaN C p_y (fun r3 H4 =>
 ift r1
 (ift r3
 (K 0 H4)
 (K (-1) H4))
 (ift r3
 (K 1 H4)
 (ift (decide ((p_x : Int) < p_y))
 (K (-1) H4)
 (ift (decide ((p_x : Int) > p_y))
 (K 1 H4)
 (K 0 H4))))) H2) H
theorem QdF (C p_x p_y K H) (h : QbG C p_x p_y K H) : Qa4 C p_x p_y K H := by
 refine Ye Tryz.func132 rfl Tryz.ntmps132 [(0, .int .u8 p_x), (1, .int .u8 p_y)] (Zo (Za (GL.nil (Zo (Zm (Zc h Qcb ?_))))))
 rintro _ H2 ⟨r1, rfl, h⟩
 refine Za (GL.nil (Zo (Zm (Zc h Qcb ?_))))
 rintro _ H4 ⟨r3, rfl, h⟩
 refine Za (GL.nil (GC.seq (Zo (Zm (GL.nil (Yd h (fun hc5 h => ?_) fun hc5 h => ?_))))))
 refine GC.seq (Zo (Zm (GL.nil (Yd h (fun hc6 h => ?_) fun hc6 h => ?_))))
 refine Zo (Za (GL.nil ?_))
 exact Y1 I3 ⟨0, rfl, h⟩
 refine GC.skip (Zo (Za (GL.nil ?_)))
 exact Y1 I3 ⟨(-1), rfl, h⟩
 refine GC.skip (GC.seq (Zo (Zm (GL.nil (Yd h (fun hc7 h => ?_) fun hc7 h => ?_)))))
 refine Zo (Za (GL.nil ?_))
 exact Y1 I3 ⟨1, rfl, h⟩
 refine GC.skip (GC.seq (Zo (Zm (Zm (Zi (.bool (decide ((p_x : Int) < p_y))) (GL.nil (Yd h (fun hc8 h => ?_) fun hc8 h => ?_)))))))
 refine Zo (Za (GL.nil ?_))
 exact Y1 I3 ⟨(-1), rfl, h⟩
 refine GC.skip (GC.seq (Zo (Zm (Zm (Zi (.bool (decide ((p_x : Int) > p_y))) (GL.nil (Yd h (fun hc9 h => ?_) fun hc9 h => ?_)))))))
 refine Zo (Za (GL.nil ?_))
 exact Y1 I3 ⟨1, rfl, h⟩
 refine GC.skip (Zo (Za (GL.nil ?_)))
 exact Y1 I3 ⟨0, rfl, h⟩
def QcZ (C : Ctx) (p_a : Str) (p_b : Str) (K : Int → Heap → Prop) (H : Heap) : Prop :=
 Qaf C p_a [45] (fun r1 H2 =>
 Qaf C p_b [45] (fun r3 H4 =>
 ift (r1 && r3)
 (dr H4 fun Hs7 =>
 slS p_b 1 (List.length p_b : Int) fun t9 =>
 slS p_a 1 (List.length p_a : Int) fun t15 =>
 Q3 C t9 t15 (fun r22 H23 =>
 Heap.le Hs7 H23 ∧
 K r22 H23) H4)
 (ift r1
 (K (-1) H4)
 (ift r3
 (K 1 H4)
 (Qbl C (List.length p_a : Int) (List.length p_b : Int) (fun r26 H27 =>
 Qw C p_a p_b (fun r28 H29 =>
 nw ([.int .i64 r26, .int .i64 r28]) (fun b30 H31 =>
 Qa7 C (Sl.of (some (b30, 0)) 2 2) (fun r32 H33 =>
 K r32 H33) H31) H29) H27) H4)))) H2) H
theorem Qee (C p_a p_b K H) (h : QcZ C p_a p_b K H) : Q3 C p_a p_b K H := by
 refine Ye Tryz.func133 rfl Tryz.ntmps133 [(0, sv p_a), (1, sv p_b)] (Zo (Za (GL.nil (Zo (Zm (Zc h QbE ?_))))))
 rintro _ H2 ⟨r1, rfl, h⟩
 refine Zm (Zc h QbE ?_)
 rintro _ H4 ⟨r3, rfl, h⟩
 refine Za (Za (GL.nil (GC.seq (GC.block (Zo (Zm (Zm (GL.cut0 2 [(15, .bool (r1 && r3)), (0, sv p_a), (1, sv p_b), (5, .bool r1), (6, .bool r3)] ?_ ?_))))))))
 rcases Bool.eq_false_or_eq_true r1 with u5 | u5
 refine Zu u5 Ym (Zt u5 ?_)
 exact GL.jump0 (fun _ _ h => h) () rfl ⟨(by rw [u5]; rfl), rfl, rfl, rfl, rfl, trivial⟩
 refine Zk u5 (Zn u5 ?_)
 exact GL.jump0 (fun _ _ h => h) () rfl ⟨(by rw [u5]; rfl), rfl, rfl, rfl, rfl, trivial⟩
 refine Za (GL.nil (Yd h (fun u6 h => ?_) fun u6 h => ?_))
 refine GC.seq ?_
 obtain ⟨Hs7, hle8, h⟩ := h
 refine GC.any (Hs := Hs7) (by kernel_rfl) hle8 (Zp 0 rfl Ym ?_)
 obtain ⟨h10, h11, h12, t9, h13, h⟩ := h
 refine Zp 1 rfl (OV.sliceStr (s := p_b) h10 h11 h12 h13 rfl rfl rfl rfl rfl rfl) (Zp 2 rfl Ym ?_)
 obtain ⟨h16, h17, h18, t15, h19, h⟩ := h
 refine Zp 3 rfl (OV.sliceStr (s := p_a) h16 h17 h18 h19 rfl rfl rfl rfl rfl rfl) (GA.eff 4 rfl (by kernel_rfl) (Zc h Qem ?_))
 rintro _ H23 ⟨r22, rfl, h⟩
 obtain ⟨hle21, h⟩ := h
 refine GA.back hle21 (Zp 5 rfl Ya (GA.done (by kernel_rfl) (GL.nil ?_)))
 exact Y1 I3 ⟨r22, rfl, h⟩
 refine Zo (Zm (Za (GL.nil (Yd h (fun u24 h => ?_) fun u24 h => ?_))))
 refine Zo (Za (GL.nil ?_))
 exact Y1 I3 ⟨(-1), rfl, h⟩
 refine Zo (Zm (Za (GL.nil (Yd h (fun u25 h => ?_) fun u25 h => ?_))))
 refine Zo (Za (GL.nil ?_))
 exact Y1 I3 ⟨1, rfl, h⟩
 refine GC.skip_to (fun _ _ h => h) (Zo (Zm (Zr (Zm (Zr (Zc h Qek ?_))))))
 rintro _ H27 ⟨r26, rfl, h⟩
 refine Zm (Zm (Zc h Q4 ?_))
 rintro _ H29 ⟨r28, rfl, h⟩
 refine GL.buildSlice (cs := [.int .i64 r26, .int .i64 r28]) h trivial rfl (vs := [(0, .int .i64 r26), (1, .int .i64 r28)]) rfl ⟨3, fun _ => by kernel_rfl⟩ ?_
 intro b30 H31 h
 refine Zc h QcU ?_
 rintro _ H33 ⟨r32, rfl, h⟩
 refine Za (GL.nil ?_)
 exact Y1 I3 ⟨r32, rfl, h⟩
def QbF (C : Ctx) (p_x : Int) (p_y : Int) (K : Int → Heap → Prop) (H : Heap) : Prop :=
 QaM C p_x (fun r1 H2 =>
 QaM C p_y (fun r3 H4 =>
 ift r1
 (ift r3
 (K 0 H4)
 (K (-1) H4))
 (ift r3
 (K 1 H4)
 (ift (decide ((p_x : Int) < p_y))
 (K (-1) H4)
 (ift (decide ((p_x : Int) > p_y))
 (K 1 H4)
 (K 0 H4))))) H2) H
theorem QdE (C p_x p_y K H) (h : QbF C p_x p_y K H) : Qa3 C p_x p_y K H := by
 refine Ye Tryz.func134 rfl Tryz.ntmps134 [(0, .int .i64 p_x), (1, .int .i64 p_y)] (Zo (Za (GL.nil (Zo (Zm (Zc h Qca ?_))))))
 rintro _ H2 ⟨r1, rfl, h⟩
 refine Za (GL.nil (Zo (Zm (Zc h Qca ?_))))
 rintro _ H4 ⟨r3, rfl, h⟩
 refine Za (GL.nil (GC.seq (Zo (Zm (GL.nil (Yd h (fun u5 h => ?_) fun u5 h => ?_))))))
 refine GC.seq (Zo (Zm (GL.nil (Yd h (fun u6 h => ?_) fun u6 h => ?_))))
 refine Zo (Za (GL.nil ?_))
 exact Y1 I3 ⟨0, rfl, h⟩
 refine GC.skip (Zo (Za (GL.nil ?_)))
 exact Y1 I3 ⟨(-1), rfl, h⟩
 refine GC.skip (GC.seq (Zo (Zm (GL.nil (Yd h (fun u7 h => ?_) fun u7 h => ?_)))))
 refine Zo (Za (GL.nil ?_))
 exact Y1 I3 ⟨1, rfl, h⟩
 refine GC.skip (GC.seq (Zo (Zm (Zm (Zi (.bool (decide ((p_x : Int) < p_y))) (GL.nil (Yd h (fun u8 h => ?_) fun u8 h => ?_)))))))
 refine Zo (Za (GL.nil ?_))
 exact Y1 I3 ⟨(-1), rfl, h⟩
 refine GC.skip (GC.seq (Zo (Zm (Zm (Zi (.bool (decide ((p_x : Int) > p_y))) (GL.nil (Yd h (fun u9 h => ?_) fun u9 h => ?_)))))))
 refine Zo (Za (GL.nil ?_))
 exact Y1 I3 ⟨1, rfl, h⟩
 refine GC.skip (Zo (Za (GL.nil ?_)))
 exact Y1 I3 ⟨0, rfl, h⟩
def Qdw (C : Ctx) (p_s : Str) (K : Int → Bool → Heap → Prop) (H : Heap) : Prop :=
 QaT C p_s [45] (fun r1 H2 =>
 jn (α := Bool) (fun b3 H9 =>
 jn (α := Bool) (fun b10 H18 =>
 ift b10
 (K 0 false H18)
 (K (List.length r1 : Int) true H18))
 (fun J11 => ift b3
 (J11 true H9)
 (ixs r1 0 fun c14 =>
 J11 ((((c14.toNat : Int) : Int) == 48) && (!(p_s == ([48] : Str)))) H9)))
 (fun J4 => ift (r1 == ([] : Str))
 (J4 true H2)
 (Q9 C r1 [48, 49, 50, 51, 52, 53, 54, 55, 56, 57] (fun r7 H8 =>
 J4 (!(r7 == ([] : Str))) H8) H2))) H
theorem Qfm (C p_s K H) (h : Qdw C p_s K H) : Qcn C p_s K H := by
 refine Ye Tryz.func135 rfl Tryz.ntmps135 [(0, sv p_s)] (Zo (Za (Za (GL.nil (Zo (Zm (Zc h Qdk ?_)))))))
 rintro _ H2 ⟨r1, rfl, h⟩
 refine Za (GL.nil (GC.seq (Zo (Zm (Zv (OV.sbin (a := r1) (b := ([] : Str)) (v := .bool (r1 == ([] : Str))) rfl rfl rfl) (Zm ?_))))))
 obtain ⟨J4, h, hR5⟩ := h
 refine GL.cut (α := Bool) 4 J4 (fun b3 => [(13, .bool b3), (0, sv p_s), (4, sv r1)]) ?_ ?_
 rcases h.em with ⟨u6, h⟩ | ⟨u6, h⟩
 refine Zk u6 (Zk u6 (Zk u6 (Zt u6 ?_)))
 exact Yj I3 true h
 refine Zu u6 Ym (GL.call h (Yt u6) rfl Qfy (vs := [sv r1, sv [48, 49, 50, 51, 52, 53, 54, 55, 56, 57]]) rfl ?_)
 rintro _ H8 ⟨r7, rfl, h⟩
 refine Zu u6 (OV.sbin (a := r7) (b := ([] : Str)) (v := .bool (!(r7 == ([] : Str)))) rfl rfl rfl) (Zn u6 ?_)
 exact Yj I3 (!(r7 == ([] : Str))) h
 intro b3 H9 h
 replace h := hR5 b3 H9 h
 refine Zm ?_
 obtain ⟨J11, h, hR12⟩ := h
 refine GL.cut (α := Bool) 8 J11 (fun b10 => [(22, .bool b10), (4, sv r1)]) ?_ ?_
 rcases h.em with ⟨u13, h⟩ | ⟨u13, h⟩
 refine Zk u13 (Zk u13 (Zk u13 (Zk u13 (GL.skip ⟨_, rfl, .inr rfl⟩ rfl (GL.skip ⟨_, rfl, .inr rfl⟩ rfl (Zk u13 (Zt u13 ?_)))))))
 exact Yj I3 true h
 refine Zu u13 Ym ?_
 obtain ⟨c14, ha15, hb16, h⟩ := h
 refine Zu u13 (OV.indexStr rfl rfl rfl ha15 hb16) (Zu u13 (OV.ibin (v := .bool (((c14.toNat : Int) : Int) == 48)) rfl rfl rfl) (Zu u13 Ym (GL.cut0 3 [(21, .bool ((((c14.toNat : Int) : Int) == 48) && (!(p_s == ([48] : Str))))), (4, sv r1), (14, .bool b3)] ?_ ?_)))
 rcases Zb (((c14.toNat : Int) : Int) == 48) with u17 | u17
 refine Zu u17 Ym (Zu u17 (OV.sbin (a := p_s) (b := ([48] : Str)) (v := .bool (!(p_s == ([48] : Str)))) rfl rfl rfl) (Zu u13 (OV.pickT rfl u17 rfl) ?_))
 exact GL.jump0 (fun _ _ h => h) () rfl ⟨(by rw [u17]; rfl), rfl, rfl, trivial⟩
 refine Zk u17 (Zk u17 (Zu u13 (OV.pickF rfl u17 rfl) ?_))
 exact GL.jump0 (fun _ _ h => h) () rfl ⟨(by rw [u17]; rfl), rfl, rfl, trivial⟩
 refine Zn u13 ?_
 exact Yj I3 ((((c14.toNat : Int) : Int) == 48) && (!(p_s == ([48] : Str)))) h
 intro b10 H18 h
 replace h := hR12 b10 H18 h
 refine GL.nil (Yd h (fun u19 h => ?_) fun u19 h => ?_)
 refine Zo (Za (Za (GL.nil ?_)))
 exact Y2 I3 ⟨0, false, rfl, h⟩
 refine GC.skip (Zo (Zm (Zr (Za (Za (GL.nil ?_))))))
 exact Y2 I3 ⟨(List.length r1 : Int), true, rfl, h⟩
def QdU (C : Ctx) (p_s : Str) (p_sep : Str) (K : Str → Str → Bool → Heap → Prop) (H : Heap) : Prop :=
 QaQ C p_s p_sep (fun r1 r2 r3 H4 =>
 K r1 r2 r3 H4) H
theorem QfV (C p_s p_sep K H) (h : QdU C p_s p_sep K H) : QcO C p_s p_sep K H := by
 refine Ye Tryz.func136 rfl Tryz.ntmps136 [(0, sv p_s), (1, sv p_sep)] (Zo (Za (Za (Za (GL.nil (Zo (Zm (Zm (Zc h QbY ?_)))))))))
 rintro _ H4 ⟨r1, r2, r3, rfl, h⟩
 refine Yv (sv r1) rfl rfl (Yv (sv r2) rfl rfl (Yv (.bool r3) rfl rfl (Za (Za (Za (GL.nil ?_))))))
 exact Y3 I3 ⟨r1, r2, r3, rfl, h⟩
def Qeu (C : Ctx) (p_s : Str) (K : Bool → Heap → Prop) (H : Heap) : Prop :=
 jn (α := Bool) (fun b2 H9 =>
 jn (α := Bool) (fun b10 H17 =>
 ift b10
 (K false H17)
 (lp (α := Int) 0 H17 (fun x19 J20 H21 =>
 ift (decide ((x19 : Int) < (List.length p_s : Int)))
 (ixs p_s x19 fun c23 =>
 ift (!(((((decide (((c23.toNat : Int) : Int) ≥ 97)) && (decide (((c23.toNat : Int) : Int) ≤ 122))) || ((decide (((c23.toNat : Int) : Int) ≥ 65)) && (decide (((c23.toNat : Int) : Int) ≤ 90)))) || ((decide (((c23.toNat : Int) : Int) ≥ 48)) && (decide (((c23.toNat : Int) : Int) ≤ 57)))) || (((c23.toNat : Int) : Int) == 95)))
 (K false H21)
 (J20 (w .i64 (x19 + 1)) H21))
 (K true H21))))
 (fun J11 => ift b2
 (J11 true H9)
 (ixs p_s 0 fun c14 =>
 J11 (decide (((c14.toNat : Int) : Int) > 122)) H9)))
 (fun J3 => ift ((p_s == ([] : Str)) || (decide (((List.length p_s : Int) : Int) > 32)))
 (J3 true H)
 (ixs p_s 0 fun c6 =>
 J3 (decide (((c6.toNat : Int) : Int) < 97)) H))
theorem Qgs (C p_s K H) (h : Qeu C p_s K H) : Qa9 C p_s K H := by
 refine Ye Tryz.func137 rfl Tryz.ntmps137 [(0, sv p_s)] (Zo (Za (GL.nil (GC.seq (Zo (Zm (Zv (OV.sbin (a := p_s) (b := ([] : Str)) (v := .bool (p_s == ([] : Str))) rfl rfl rfl) (Zm (GL.cut0 4 [(11, .bool ((p_s == ([] : Str)) || (decide (((List.length p_s : Int) : Int) > 32)))), (0, sv p_s)] ?_ ?_)))))))))
 rcases Zb (p_s == ([] : Str)) with hc1 | hc1
 refine Zk hc1 (Zk hc1 (Zk hc1 (Zt hc1 ?_)))
 exact GL.jump0 (fun _ _ h => h) () rfl ⟨(by rw [hc1]; rfl), rfl, trivial⟩
 refine Zu hc1 Ym (Zu hc1 (OV.lenStr rfl rfl) (Zu hc1 (OV.ibin (v := .bool (decide (((List.length p_s : Int) : Int) > 32))) rfl rfl rfl) (Zn hc1 ?_)))
 exact GL.jump0 (fun _ _ h => h) () rfl ⟨(by rw [hc1]; rfl), rfl, trivial⟩
 refine Zm ?_
 obtain ⟨J3, h, hR4⟩ := h
 refine GL.cut (α := Bool) 4 J3 (fun b2 => [(16, .bool b2), (0, sv p_s)]) ?_ ?_
 rcases h.em with ⟨hc5, h⟩ | ⟨hc5, h⟩
 refine Zk hc5 (Zk hc5 (Zk hc5 (Zt hc5 ?_)))
 exact Yj I3 true h
 refine Zu hc5 Ym ?_
 obtain ⟨c6, ha7, hb8, h⟩ := h
 refine Zu hc5 (OV.indexStr rfl rfl rfl ha7 hb8) (Zu hc5 (OV.ibin (v := .bool (decide (((c6.toNat : Int) : Int) < 97))) rfl rfl rfl) (Zn hc5 ?_))
 exact Yj I3 (decide (((c6.toNat : Int) : Int) < 97)) h
 intro b2 H9 h
 replace h := hR4 b2 H9 h
 refine Zm ?_
 obtain ⟨J11, h, hR12⟩ := h
 refine GL.cut (α := Bool) 4 J11 (fun b10 => [(21, .bool b10), (0, sv p_s)]) ?_ ?_
 rcases h.em with ⟨hc13, h⟩ | ⟨hc13, h⟩
 refine Zk hc13 (Zk hc13 (Zk hc13 (Zt hc13 ?_)))
 exact Yj I3 true h
 refine Zu hc13 Ym ?_
 obtain ⟨c14, ha15, hb16, h⟩ := h
 refine Zu hc13 (OV.indexStr rfl rfl rfl ha15 hb16) (Zu hc13 (OV.ibin (v := .bool (decide (((c14.toNat : Int) : Int) > 122))) rfl rfl rfl) (Zn hc13 ?_))
 exact Yj I3 (decide (((c14.toNat : Int) : Int) > 122)) h
 intro b10 H17 h
 replace h := hR12 b10 H17 h
 refine GL.nil (Yd h (fun hc18 h => ?_) fun hc18 h => ?_)
 refine Zo (Za (GL.nil ?_))
 exact Y1 I3 ⟨false, rfl, h⟩
 refine GC.skip (GC.seq (Zo (Zm (Zr (Zm (GL.nil (GC.block (Yp h (fun x19 => [(24, .int .i64 x19), (0, sv p_s), (23, .int .i64 (List.length p_s : Int))]) ?_))))))))
 intro x19 H21 J20 h
 refine Zo (Zi (.bool (decide ((x19 : Int) < (List.length p_s : Int)))) (GL.nil (GC.seq (Yd h (fun hc22 h => ?_) fun hc22 h => ?_))))
 refine GC.skip (GC.seq (GC.block (Zo (Zm (Za (GL.nil (Zo (Zm (Zm (Ys h fun c23 h => ?_))))))))))
 refine Za (GL.nil (Zo (Zm (Zi (.bool (decide (((c23.toNat : Int) : Int) ≥ 97))) (Zm (GL.cut0 3 [(35, .bool ((decide (((c23.toNat : Int) : Int) ≥ 97)) && (decide (((c23.toNat : Int) : Int) ≤ 122)))), (0, sv p_s), (4, .int .u8 (c23.toNat : Int)), (23, .int .i64 (List.length p_s : Int)), (24, .int .i64 x19)] ?_ ?_))))))
 rcases Zb (decide (((c23.toNat : Int) : Int) ≥ 97)) with hc26 | hc26
 refine Zu hc26 Ym (Zu hc26 (OV.ibin (v := .bool (decide (((c23.toNat : Int) : Int) ≤ 122))) rfl rfl rfl) (Zt hc26 ?_))
 exact GL.jump0 (fun _ _ h => h) () rfl ⟨(by rw [hc26]; rfl), rfl, rfl, rfl, rfl, trivial⟩
 refine Zk hc26 (Zk hc26 (Zn hc26 ?_))
 exact GL.jump0 (fun _ _ h => h) () rfl ⟨(by rw [hc26]; rfl), rfl, rfl, rfl, rfl, trivial⟩
 refine Zm (GL.cut0 7 [(43, .bool (((decide (((c23.toNat : Int) : Int) ≥ 97)) && (decide (((c23.toNat : Int) : Int) ≤ 122))) || ((decide (((c23.toNat : Int) : Int) ≥ 65)) && (decide (((c23.toNat : Int) : Int) ≤ 90))))), (0, sv p_s), (4, .int .u8 (c23.toNat : Int)), (23, .int .i64 (List.length p_s : Int)), (24, .int .i64 x19)] ?_ ?_)
 rcases Zb ((decide (((c23.toNat : Int) : Int) ≥ 97)) && (decide (((c23.toNat : Int) : Int) ≤ 122))) with hc27 | hc27
 refine Zk hc27 (Zk hc27 (Zk hc27 (GL.skip ⟨_, rfl, .inr rfl⟩ rfl (GL.skip ⟨_, rfl, .inr rfl⟩ rfl (Zk hc27 (Zt hc27 ?_))))))
 exact GL.jump0 (fun _ _ h => h) () rfl ⟨(by rw [hc27]; rfl), rfl, rfl, rfl, rfl, trivial⟩
 refine Zu hc27 Ym (Zu hc27 (OV.ibin (v := .bool (decide (((c23.toNat : Int) : Int) ≥ 65))) rfl rfl rfl) (Zu hc27 Ym (GL.cut0 3 [(42, .bool ((decide (((c23.toNat : Int) : Int) ≥ 65)) && (decide (((c23.toNat : Int) : Int) ≤ 90)))), (0, sv p_s), (4, .int .u8 (c23.toNat : Int)), (23, .int .i64 (List.length p_s : Int)), (24, .int .i64 x19), (36, .bool ((decide (((c23.toNat : Int) : Int) ≥ 97)) && (decide (((c23.toNat : Int) : Int) ≤ 122))))] ?_ ?_)))
 rcases Zb (decide (((c23.toNat : Int) : Int) ≥ 65)) with hc28 | hc28
 refine Zu hc28 Ym (Zu hc28 (OV.ibin (v := .bool (decide (((c23.toNat : Int) : Int) ≤ 90))) rfl rfl rfl) (Zu hc27 (OV.pickT rfl hc28 rfl) ?_))
 exact GL.jump0 (fun _ _ h => h) () rfl ⟨(by rw [hc28]; rfl), rfl, rfl, rfl, rfl, rfl, trivial⟩
 refine Zk hc28 (Zk hc28 (Zu hc27 (OV.pickF rfl hc28 rfl) ?_))
 exact GL.jump0 (fun _ _ h => h) () rfl ⟨(by rw [hc28]; rfl), rfl, rfl, rfl, rfl, rfl, trivial⟩
 refine Zn hc27 ?_
 exact GL.jump0 (fun _ _ h => h) () rfl ⟨(by rw [hc27]; rfl), rfl, rfl, rfl, rfl, trivial⟩
 refine Zm (GL.cut0 7 [(51, .bool ((((decide (((c23.toNat : Int) : Int) ≥ 97)) && (decide (((c23.toNat : Int) : Int) ≤ 122))) || ((decide (((c23.toNat : Int) : Int) ≥ 65)) && (decide (((c23.toNat : Int) : Int) ≤ 90)))) || ((decide (((c23.toNat : Int) : Int) ≥ 48)) && (decide (((c23.toNat : Int) : Int) ≤ 57))))), (0, sv p_s), (4, .int .u8 (c23.toNat : Int)), (23, .int .i64 (List.length p_s : Int)), (24, .int .i64 x19)] ?_ ?_)
 rcases Zb (((decide (((c23.toNat : Int) : Int) ≥ 97)) && (decide (((c23.toNat : Int) : Int) ≤ 122))) || ((decide (((c23.toNat : Int) : Int) ≥ 65)) && (decide (((c23.toNat : Int) : Int) ≤ 90)))) with hc29 | hc29
 refine Zk hc29 (Zk hc29 (Zk hc29 (GL.skip ⟨_, rfl, .inr rfl⟩ rfl (GL.skip ⟨_, rfl, .inr rfl⟩ rfl (Zk hc29 (Zt hc29 ?_))))))
 exact GL.jump0 (fun _ _ h => h) () rfl ⟨(by rw [hc29]; rfl), rfl, rfl, rfl, rfl, trivial⟩
 refine Zu hc29 Ym (Zu hc29 (OV.ibin (v := .bool (decide (((c23.toNat : Int) : Int) ≥ 48))) rfl rfl rfl) (Zu hc29 Ym (GL.cut0 3 [(50, .bool ((decide (((c23.toNat : Int) : Int) ≥ 48)) && (decide (((c23.toNat : Int) : Int) ≤ 57)))), (0, sv p_s), (4, .int .u8 (c23.toNat : Int)), (23, .int .i64 (List.length p_s : Int)), (24, .int .i64 x19), (44, .bool (((decide (((c23.toNat : Int) : Int) ≥ 97)) && (decide (((c23.toNat : Int) : Int) ≤ 122))) || ((decide (((c23.toNat : Int) : Int) ≥ 65)) && (decide (((c23.toNat : Int) : Int) ≤ 90)))))] ?_ ?_)))
 rcases Zb (decide (((c23.toNat : Int) : Int) ≥ 48)) with hc30 | hc30
 refine Zu hc30 Ym (Zu hc30 (OV.ibin (v := .bool (decide (((c23.toNat : Int) : Int) ≤ 57))) rfl rfl rfl) (Zu hc29 (OV.pickT rfl hc30 rfl) ?_))
 exact GL.jump0 (fun _ _ h => h) () rfl ⟨(by rw [hc30]; rfl), rfl, rfl, rfl, rfl, rfl, trivial⟩
 refine Zk hc30 (Zk hc30 (Zu hc29 (OV.pickF rfl hc30 rfl) ?_))
 exact GL.jump0 (fun _ _ h => h) () rfl ⟨(by rw [hc30]; rfl), rfl, rfl, rfl, rfl, rfl, trivial⟩
 refine Zn hc29 ?_
 exact GL.jump0 (fun _ _ h => h) () rfl ⟨(by rw [hc29]; rfl), rfl, rfl, rfl, rfl, trivial⟩
 refine Zm (GL.cut0 3 [(55, .bool (((((decide (((c23.toNat : Int) : Int) ≥ 97)) && (decide (((c23.toNat : Int) : Int) ≤ 122))) || ((decide (((c23.toNat : Int) : Int) ≥ 65)) && (decide (((c23.toNat : Int) : Int) ≤ 90)))) || ((decide (((c23.toNat : Int) : Int) ≥ 48)) && (decide (((c23.toNat : Int) : Int) ≤ 57)))) || (((c23.toNat : Int) : Int) == 95))), (0, sv p_s), (23, .int .i64 (List.length p_s : Int)), (24, .int .i64 x19)] ?_ ?_)
 rcases Zb ((((decide (((c23.toNat : Int) : Int) ≥ 97)) && (decide (((c23.toNat : Int) : Int) ≤ 122))) || ((decide (((c23.toNat : Int) : Int) ≥ 65)) && (decide (((c23.toNat : Int) : Int) ≤ 90)))) || ((decide (((c23.toNat : Int) : Int) ≥ 48)) && (decide (((c23.toNat : Int) : Int) ≤ 57)))) with hc31 | hc31
 refine Zk hc31 (Zk hc31 (Zt hc31 ?_))
 exact GL.jump0 (fun _ _ h => h) () rfl ⟨(by rw [hc31]; rfl), rfl, rfl, rfl, trivial⟩
 refine Zu hc31 Ym (Zu hc31 (OV.ibin (v := .bool (((c23.toNat : Int) : Int) == 95)) rfl rfl rfl) (Zn hc31 ?_))
 exact GL.jump0 (fun _ _ h => h) () rfl ⟨(by rw [hc31]; rfl), rfl, rfl, rfl, trivial⟩
 refine Zv (OV.not rfl) (GL.nil (Yd h (fun hc32 h => ?_) fun hc32 h => ?_))
 refine Zo (Za (GL.nil ?_))
 exact Y1 I3 ⟨false, rfl, h⟩
 refine GC.skip_to (fun _ _ h => h) (GC.region (Zi (.int .i64 (w .i64 (x19 + 1))) (Zm ?_)))
 exact Yj I3 (w .i64 (x19 + 1)) h
 refine GC.exit_to (fun _ _ h => h) (Zo (Za (GL.nil ?_)))
 exact Y1 I3 ⟨true, rfl, h⟩
def Qay (C : Ctx) (p_b : Option (Nat × Nat)) (K : Heap → Prop) (H : Heap) : Prop :=
 nck p_b fun p1 =>
 ldP H (p1.1, p1.2 + 0) fun x3 =>
 ift (Option.isNone x3)
 (∃ p7, p_b = some p7 ∧ cvU p7 (
 cvP 136 2 p7 (
 nck p_b fun p10 =>
 sttG (p10.1, p10.2 + 0) (pv (some p7)) (fun H12 =>
 K H12) H) H) H)
 (nck p_b fun p13 =>
 ldP H (p13.1, p13.2 + 0) fun x15 =>
 ∃ p17, x15 = some p17 ∧ p_b = some p17 ∧
 ift false
 (False)
 (K H))
theorem QbK (C p_b K H) (h : Qay C p_b K H) : QD C p_b K H := by
 refine Ye Tryz.func138 rfl Tryz.ntmps138 [(0, pv p_b)] (Zo (Zm ?_))
 obtain ⟨p1, hp2, h⟩ := h
 refine Zv (OV.nilCheck (q := p_b) rfl hp2) (Zf (Yl h fun x3 h => ?_))
 refine Zv (OV.eqlNil (p := x3) rfl rfl rfl) (GL.nil (Yd h (fun u5 h => ?_) fun u5 h => ?_))
 refine GC.region (Zm (Zm ?_))
 obtain ⟨p7, hp8, hu6, h⟩ := h
 refine Zv (OV.cvU (q := p_b) (p := p7) hp8 hu6 rfl rfl rfl ⟨_, rfl, by decide⟩) (Zv (OV.ext Qco (vs := [pv (some p7)]) (v := pv (some p7)) rfl (fun w => Qjv _ w)) ?_)
 obtain ⟨hu9, h⟩ := h
 refine Zv (OV.cvP (T := 136) (len := 2) (p := p7) hu9 rfl rfl rfl ⟨_, rfl⟩ (by kernel_rfl)) ?_
 obtain ⟨p10, hp11, h⟩ := h
 refine Zv (OV.nilCheck (q := p_b) rfl hp11) (Zf (GL.storeG (p := (p10.1, p10.2 + 0)) (v := pv (some p7)) h trivial rfl rfl rfl rfl ?_))
 intro H12 h
 exact GL.ends (fun _ _ hf hs => QB rfl hf hs ⟨rfl, h⟩)
 refine Zo (Zm ?_)
 obtain ⟨p13, hp14, h⟩ := h
 refine Zv (OV.nilCheck (q := p_b) rfl hp14) (Zf (Yl h fun x15 h => ?_))
 refine Zm ?_
 obtain ⟨p17, hp18, hq19, h⟩ := h
 refine Zv (OV.neqSame (p := x15) (q := p_b) rfl rfl hp18 hq19 rfl rfl) (GL.nil (Yd h (fun u20 h => ?_) fun u20 h => ?_))
 exact GC.never h
 exact GC.ends (fun _ _ hf hs => QB rfl hf hs ⟨rfl, h⟩)
def Qac (C : Ctx) (p_b : Bool) (K : Str → Heap → Prop) (H : Heap) : Prop :=
 ift p_b
 (K [116, 114, 117, 101] H)
 (K [102, 97, 108, 115, 101] H)
theorem Qbp (C p_b K H) (h : Qac C p_b K H) : Qal C p_b K H := by
 refine Ye Tryz.func139 rfl Tryz.ntmps139 [(0, .bool p_b)] (Zo (Za (GL.nil (GC.seq (Zo (Zm (GL.nil (Yd h (fun u1 h => ?_) fun u1 h => ?_))))))))
 refine Zo (Za (GL.nil ?_))
 exact Y1 I3 ⟨[116, 114, 117, 101], rfl, h⟩
 refine GC.skip (Zo (Za (GL.nil ?_)))
 exact Y1 I3 ⟨[102, 97, 108, 115, 101], rfl, h⟩
def Qch (C : Ctx) (p_x : Int) (K : Bool → Heap → Prop) (H : Heap) : Prop :=
 K ((p_x : Int) != p_x) H
theorem Qed (C p_x K H) (h : Qch C p_x K H) : QaN C p_x K H := by
 refine Ye Tryz.func151 rfl Tryz.ntmps151 [(0, .int .u8 p_x)] (Zo (Za (GL.nil (Zo (Zm (Zm (Zi (.bool ((p_x : Int) != p_x)) (Za (GL.nil ?_)))))))))
 exact Y1 I3 ⟨((p_x : Int) != p_x), rfl, h⟩
def QbI (C : Ctx) (p_s : Str) (p_prefix : Str) (K : Bool → Heap → Prop) (H : Heap) : Prop :=
 Qt C p_s p_prefix (fun r1 H2 =>
 K r1 H2) H
theorem QdH (C p_s p_prefix K H) (h : QbI C p_s p_prefix K H) : Qaf C p_s p_prefix K H := by
 refine Ye Tryz.func152 rfl Tryz.ntmps152 [(0, sv p_s), (1, sv p_prefix)] (Zo (Za (GL.nil (Zo (Zm (Zm (Zc h Q5 ?_)))))))
 rintro _ H2 ⟨r1, rfl, h⟩
 refine Za (GL.nil ?_)
 exact Y1 I3 ⟨r1, rfl, h⟩
def Qcf (C : Ctx) (p_x : Int) (p_y : Int) (K : Int → Heap → Prop) (H : Heap) : Prop :=
 Qbf C p_x (fun r1 H2 =>
 Qbf C p_y (fun r3 H4 =>
 ift r1
 (ift r3
 (K 0 H4)
 (K (-1) H4))
 (ift r3
 (K 1 H4)
 (ift (decide ((p_x : Int) < p_y))
 (K (-1) H4)
 (ift (decide ((p_x : Int) > p_y))
 (K 1 H4)
 (K 0 H4))))) H2) H
theorem Qea (C p_x p_y K H) (h : Qcf C p_x p_y K H) : Qbl C p_x p_y K H := by
 refine Ye Tryz.func153 rfl Tryz.ntmps153 [(0, .int .i64 p_x), (1, .int .i64 p_y)] (Zo (Za (GL.nil (Zo (Zm (Zc h Qc3 ?_))))))
 rintro _ H2 ⟨r1, rfl, h⟩
 refine Za (GL.nil (Zo (Zm (Zc h Qc3 ?_))))
 rintro _ H4 ⟨r3, rfl, h⟩
 refine Za (GL.nil (GC.seq (Zo (Zm (GL.nil (Yd h (fun u5 h => ?_) fun u5 h => ?_))))))
 refine GC.seq (Zo (Zm (GL.nil (Yd h (fun u6 h => ?_) fun u6 h => ?_))))
 refine Zo (Za (GL.nil ?_))
 exact Y1 I3 ⟨0, rfl, h⟩
 refine GC.skip (Zo (Za (GL.nil ?_)))
 exact Y1 I3 ⟨(-1), rfl, h⟩
 refine GC.skip (GC.seq (Zo (Zm (GL.nil (Yd h (fun u7 h => ?_) fun u7 h => ?_)))))
 refine Zo (Za (GL.nil ?_))
 exact Y1 I3 ⟨1, rfl, h⟩
 refine GC.skip (GC.seq (Zo (Zm (Zm (Zi (.bool (decide ((p_x : Int) < p_y))) (GL.nil (Yd h (fun u8 h => ?_) fun u8 h => ?_)))))))
 refine Zo (Za (GL.nil ?_))
 exact Y1 I3 ⟨(-1), rfl, h⟩
 refine GC.skip (GC.seq (Zo (Zm (Zm (Zi (.bool (decide ((p_x : Int) > p_y))) (GL.nil (Yd h (fun u9 h => ?_) fun u9 h => ?_)))))))
 refine Zo (Za (GL.nil ?_))
 exact Y1 I3 ⟨1, rfl, h⟩
 refine GC.skip (Zo (Za (GL.nil ?_)))
 exact Y1 I3 ⟨0, rfl, h⟩
def Qcg (C : Ctx) (p_x : Int) (K : Bool → Heap → Prop) (H : Heap) : Prop :=
 K ((p_x : Int) != p_x) H
theorem Qec (C p_x K H) (h : Qcg C p_x K H) : QaM C p_x K H := by
 refine Ye Tryz.func154 rfl Tryz.ntmps154 [(0, .int .i64 p_x)] (Zo (Za (GL.nil (Zo (Zm (Zm (Zi (.bool ((p_x : Int) != p_x)) (Za (GL.nil ?_)))))))))
 exact Y1 I3 ⟨((p_x : Int) != p_x), rfl, h⟩
def Qbw (C : Ctx) (p_s : Str) (p_prefix : Str) (K : Str → Heap → Prop) (H : Heap) : Prop :=
 Q1 C p_s p_prefix (fun r1 H2 =>
 K r1 H2) H
theorem Qdf (C p_s p_prefix K H) (h : Qbw C p_s p_prefix K H) : QaT C p_s p_prefix K H := by
 refine Ye Tryz.func155 rfl Tryz.ntmps155 [(0, sv p_s), (1, sv p_prefix)] (Zo (Za (GL.nil (Zo (Zm (Zm (Zc h Qbc ?_)))))))
 rintro _ H2 ⟨r1, rfl, h⟩
 refine Za (GL.nil ?_)
 exact Y1 I3 ⟨r1, rfl, h⟩
def Qdp (C : Ctx) (p_s : Str) (p_cutset : Str) (K : Str → Heap → Prop) (H : Heap) : Prop :=
 ift ((p_s == ([] : Str)) || (p_cutset == ([] : Str)))
 (K p_s H)
 (jn (α := Bool) (fun b3 H10 =>
 ift b3
 (dr H10 fun Hs12 =>
 ixs p_cutset 0 fun c14 =>
 ixs p_cutset 0 fun c17 =>
 QcP C p_s (c14.toNat : Int) (fun r21 H22 =>
 Heap.le Hs12 H22 ∧
 Qdd C r21 (c17.toNat : Int) (fun r24 H25 =>
 Heap.le Hs12 H25 ∧
 K r24 H25) H22) H10)
 (Qs C p_cutset (fun r26 r27 H28 =>
 nw ((List.replicate 256 (.bool false : Value))) (fun b29 H30 =>
 stC 256 (b29, 0) r26 (fun H31 =>
 ift r27
 (Qab C p_s (some (b29, 0)) (fun r35 H36 =>
 Qag C r35 (some (b29, 0)) (fun r37 H38 =>
 K r37 H38) H36) H31)
 (Qb8 C p_s p_cutset (fun r39 H40 =>
 Qcl C r39 p_cutset (fun r41 H42 =>
 K r41 H42) H40) H31)) H30) H28) H10))
 (fun J4 => ift (((List.length p_cutset : Int) : Int) == 1)
 (ixs p_cutset 0 fun c7 =>
 J4 (decide (((c7.toNat : Int) : Int) < 128)) H)
 (J4 false H)))
theorem Qff (C p_s p_cutset K H) (h : Qdp C p_s p_cutset K H) : Q9 C p_s p_cutset K H := by
 refine Ye Tryz.func156 rfl Tryz.ntmps156 [(0, sv p_s), (1, sv p_cutset)] (Zo (Za (GL.nil (GC.seq (Zo (Zm (Zv (OV.sbin (a := p_s) (b := ([] : Str)) (v := .bool (p_s == ([] : Str))) rfl rfl rfl) (Zm (GL.cut0 3 [(12, .bool ((p_s == ([] : Str)) || (p_cutset == ([] : Str)))), (0, sv p_s), (1, sv p_cutset)] ?_ ?_)))))))))
 rcases Zb (p_s == ([] : Str)) with u1 | u1
 refine Zk u1 (Zk u1 (Zt u1 ?_))
 exact GL.jump0 (fun _ _ h => h) () rfl ⟨(by rw [u1]; rfl), rfl, rfl, trivial⟩
 refine Zu u1 Ym (Zu u1 (OV.sbin (a := p_cutset) (b := ([] : Str)) (v := .bool (p_cutset == ([] : Str))) rfl rfl rfl) (Zn u1 ?_))
 exact GL.jump0 (fun _ _ h => h) () rfl ⟨(by rw [u1]; rfl), rfl, rfl, trivial⟩
 refine GL.nil (Yd h (fun u2 h => ?_) fun u2 h => ?_)
 refine Zo (Zm (Za (GL.nil ?_)))
 exact Y1 I3 ⟨p_s, rfl, h⟩
 refine GC.skip (GC.seq (Zo (Zm (Zr (Zi (.bool (((List.length p_cutset : Int) : Int) == 1)) (Zm ?_))))))
 obtain ⟨J4, h, hR5⟩ := h
 refine GL.cut (α := Bool) 4 J4 (fun b3 => [(21, .bool b3), (0, sv p_s), (1, sv p_cutset)]) ?_ ?_
 rcases h.em with ⟨u6, h⟩ | ⟨u6, h⟩
 refine Zu u6 Ym ?_
 obtain ⟨c7, ha8, hb9, h⟩ := h
 refine Zu u6 (OV.indexStr rfl rfl rfl ha8 hb9) (Zu u6 (OV.ibin (v := .bool (decide (((c7.toNat : Int) : Int) < 128))) rfl rfl rfl) (Zt u6 ?_))
 exact Yj I3 (decide (((c7.toNat : Int) : Int) < 128)) h
 refine Zk u6 (Zk u6 (Zk u6 (Zn u6 ?_)))
 exact Yj I3 false h
 intro b3 H10 h
 replace h := hR5 b3 H10 h
 refine GL.nil (Yd h (fun u11 h => ?_) fun u11 h => ?_)
 refine GC.seq ?_
 obtain ⟨Hs12, hle13, h⟩ := h
 refine GC.any (Hs := Hs12) (by kernel_rfl) hle13 (Zp 0 rfl Ym (Zp 1 rfl Ym ?_))
 obtain ⟨c14, ha15, hb16, h⟩ := h
 refine Zp 2 rfl (OV.indexStr rfl rfl rfl ha15 hb16) (Zp 4 rfl Ym ?_)
 obtain ⟨c17, ha18, hb19, h⟩ := h
 refine Zp 5 rfl (OV.indexStr rfl rfl rfl ha18 hb19) (GA.eff 3 rfl (by kernel_rfl) (Zc h QcA ?_))
 rintro _ H22 ⟨r21, rfl, h⟩
 obtain ⟨hle20, h⟩ := h
 refine GA.back hle20 (GA.eff 6 rfl (by kernel_rfl) (Zc h QcW ?_))
 rintro _ H25 ⟨r24, rfl, h⟩
 obtain ⟨hle23, h⟩ := h
 refine GA.back hle23 (Zp 7 rfl Ya (GA.done (by kernel_rfl) (GL.nil ?_)))
 exact Y1 I3 ⟨r24, rfl, h⟩
 refine GC.skip (GC.seq (Zo (Zm (Zc h QcV ?_))))
 rintro _ H28 ⟨r26, r27, rfl, h⟩
 refine Zm (Yv (.agg (List.toArray r26)) rfl rfl (Yv (.bool r27) rfl rfl (GL.alloc (cs := (List.replicate 256 (.bool false : Value))) h trivial rfl rfl rfl ?_)))
 intro b29 H30 h
 obtain ⟨hl32, h133, h⟩ := h
 refine GL.storeT (p := (b29, 0)) (vs := r26) h trivial rfl rfl h133 (by rw [hl32]; rfl) ?_
 intro H31 h
 refine Za (GL.nil (Zo (Zm (GL.nil (Yd h (fun u34 h => ?_) fun u34 h => ?_)))))
 refine Zo (Zm (Zc h Qcq ?_))
 rintro _ H36 ⟨r35, rfl, h⟩
 refine Zc h Qcz ?_
 rintro _ H38 ⟨r37, rfl, h⟩
 refine Za (GL.nil ?_)
 exact Y1 I3 ⟨r37, rfl, h⟩
 refine GC.skip (Zo (Zm (Zm (Zc h QbZ ?_))))
 rintro _ H40 ⟨r39, rfl, h⟩
 refine Zm (Zc h Qb9 ?_)
 rintro _ H42 ⟨r41, rfl, h⟩
 refine Za (GL.nil ?_)
 exact Y1 I3 ⟨r41, rfl, h⟩
def QaJ (C : Ctx) (p_s : Str) (p_sep : Str) (K : Str → Str → Bool → Heap → Prop) (H : Heap) : Prop :=
 QS C p_s p_sep (fun r1 H2 =>
 ift (decide ((r1 : Int) ≥ 0))
 (slS p_s 0 r1 fun t4 =>
 slS p_s (w .i64 (r1 + (List.length p_sep : Int))) (List.length p_s : Int) fun t10 =>
 K t4 t10 true H2)
 (K p_s [] false H2)) H
theorem QbT (C p_s p_sep K H) (h : QaJ C p_s p_sep K H) : QaQ C p_s p_sep K H := by
 refine Ye Tryz.func157 rfl Tryz.ntmps157 [(0, sv p_s), (1, sv p_sep)] (Zo (Za (Za (Za (GL.nil (GC.seq (Zo (Zm (Zm (Zc h QbB ?_))))))))))
 rintro _ H2 ⟨r1, rfl, h⟩
 refine Za (GL.nil (Zo (Zm (Zi (.bool (decide ((r1 : Int) ≥ 0))) (GL.nil (Yd h (fun u3 h => ?_) fun u3 h => ?_))))))
 refine GC.seq (GC.draw (by kernel_rfl) (by kernel_rfl) (GQ.val trivial rfl (OV.move (v := sv p_s) rfl) (GQ.val trivial rfl (OV.move (v := .int .i64 r1) rfl) ?_)))
 obtain ⟨h5, h6, h7, t4, h8, h⟩ := h
 refine GQ.val trivial rfl (OV.sliceStr (s := p_s) h5 h6 h7 h8 rfl rfl rfl rfl rfl rfl) (GQ.val trivial rfl (OV.move (v := sv p_s) rfl) (GQ.val trivial rfl (OV.move (v := .int .i64 r1) rfl) (GQ.val trivial rfl (OV.move (v := sv p_sep) rfl) (GQ.val trivial rfl (OV.lenStr (s := p_sep) rfl rfl) (GQ.val trivial rfl (OV.ibin (v := .int .i64 (w .i64 (r1 + (List.length p_sep : Int)))) rfl rfl rfl) ?_)))))
 obtain ⟨h11, h12, h13, t10, h14, h⟩ := h
 refine GQ.val trivial rfl (OV.sliceStr (s := p_s) h11 h12 h13 h14 rfl rfl rfl rfl rfl rfl) (GQ.val trivial rfl (OV.assign (v := sv t4) rfl) (GQ.val trivial rfl (OV.assign (v := sv t10) rfl) (GQ.val trivial rfl (OV.assign (v := .bool true) rfl) (GQ.nil (GL.nil ?_)))))
 exact Y3 I3 ⟨t4, t10, true, rfl, h⟩
 refine GC.skip (Zo (Zm (Za (Za (Za (GL.nil ?_))))))
 exact Y3 I3 ⟨p_s, [], false, rfl, h⟩
def Q7 (C : Ctx) (p_s : Str) (p_prefix : Str) (K : Bool → Heap → Prop) (H : Heap) : Prop :=
 jn (α := Bool) (fun b1 H11 =>
 K b1 H11)
 (fun J2 => ift (decide (((List.length p_s : Int) : Int) ≥ (List.length p_prefix : Int)))
 (slS p_s 0 (List.length p_prefix : Int) fun t5 =>
 J2 (t5 == p_prefix) H)
 (J2 false H))
theorem Qbd (C p_s p_prefix K H) (h : Q7 C p_s p_prefix K H) : Qt C p_s p_prefix K H := by
 refine Ye Tryz.func166 rfl Tryz.ntmps166 [(0, sv p_s), (1, sv p_prefix)] (Zo (Za (GL.nil (Zo (Zm (Zr (Zm (Zr (Zi (.bool (decide (((List.length p_s : Int) : Int) ≥ (List.length p_prefix : Int)))) (Zm ?_))))))))))
 obtain ⟨J2, h, hR3⟩ := h
 refine GL.cut (α := Bool) 7 J2 (fun b1 => [(17, .bool b1)]) ?_ ?_
 rcases h.em with ⟨u4, h⟩ | ⟨u4, h⟩
 refine Zu u4 Ym (Zu u4 Ym (Zu u4 (OV.lenStr rfl rfl) ?_))
 obtain ⟨h6, h7, h8, t5, h9, h⟩ := h
 refine Zu u4 (OV.sliceStr (s := p_s) h6 h7 h8 h9 rfl rfl rfl rfl rfl rfl) (Zu u4 Ym (Zu u4 (OV.sbin (a := t5) (b := p_prefix) (v := .bool (t5 == p_prefix)) rfl rfl rfl) (Zt u4 ?_)))
 exact Yj I3 (t5 == p_prefix) h
 refine Zk u4 (Zk u4 (Zk u4 (Zk u4 (Zk u4 (Zk u4 (Zn u4 ?_))))))
 exact Yj I3 false h
 intro b1 H11 h
 replace h := hR3 b1 H11 h
 refine Za (GL.nil ?_)
 exact Y1 I3 ⟨b1, rfl, h⟩
def Qc7 (C : Ctx) (p_x : Int) (K : Bool → Heap → Prop) (H : Heap) : Prop :=
 K ((p_x : Int) != p_x) H
theorem Qe1 (C p_x K H) (h : Qc7 C p_x K H) : Qbf C p_x K H := by
 refine Ye Tryz.func167 rfl Tryz.ntmps167 [(0, .int .i64 p_x)] (Zo (Za (GL.nil (Zo (Zm (Zm (Zi (.bool ((p_x : Int) != p_x)) (Za (GL.nil ?_)))))))))
 exact Y1 I3 ⟨((p_x : Int) != p_x), rfl, h⟩
def QY (C : Ctx) (p_s : Str) (p_prefix : Str) (K : Str → Heap → Prop) (H : Heap) : Prop :=
 Qt C p_s p_prefix (fun r1 H2 =>
 ift r1
 (slS p_s (List.length p_prefix : Int) (List.length p_s : Int) fun t4 =>
 K t4 H2)
 (K p_s H2)) H
theorem Qbb (C p_s p_prefix K H) (h : QY C p_s p_prefix K H) : Q1 C p_s p_prefix K H := by
 refine Ye Tryz.func168 rfl Tryz.ntmps168 [(0, sv p_s), (1, sv p_prefix)] (Zo (Za (GL.nil (GC.seq (Zo (Zm (Zm (Zc h Q5 ?_))))))))
 rintro _ H2 ⟨r1, rfl, h⟩
 refine GL.nil (Yd h (fun u3 h => ?_) fun u3 h => ?_)
 refine Zo (Zm (Zm (Zr ?_)))
 obtain ⟨h5, h6, h7, t4, h8, h⟩ := h
 refine Zv (OV.sliceStr (s := p_s) h5 h6 h7 h8 rfl rfl rfl rfl rfl rfl) (Za (GL.nil ?_))
 exact Y1 I3 ⟨t4, rfl, h⟩
 refine GC.skip (Zo (Zm (Za (GL.nil ?_))))
 exact Y1 I3 ⟨p_s, rfl, h⟩
def Qbk (C : Ctx) (p_chars : Str) (K : List Value → Bool → Heap → Prop) (H : Heap) : Prop :=
 nw ((List.replicate 256 (.bool false : Value))) (fun b1 H2 =>
 lp (α := Int) 0 H2 (fun x3 J4 H5 =>
 ift (decide ((x3 : Int) < (List.length p_chars : Int)))
 (ixs p_chars x3 fun c7 =>
 ift (decide (((c7.toNat : Int) : Int) ≥ 128))
 (ldC H5 256 (b1, 0) fun x11 =>
 stC 256 (b1, 0) x11 (fun H14 =>
 ldC H14 256 (b1, 0) fun x17 =>
 K x17 false H14) H5)
 (ixr (b1, 0) 256 (c7.toNat : Int) <|
 st ((b1, 0).1, (b1, 0).2 + ((c7.toNat : Int) : Int).toNat * 1) (.bool true) (fun H22 =>
 J4 (w .i64 (x3 + 1)) H22) H5))
 (ldC H5 256 (b1, 0) fun x23 =>
 stC 256 (b1, 0) x23 (fun H26 =>
 ldC H26 256 (b1, 0) fun x29 =>
 K x29 true H26) H5))) H
theorem QcM (C p_chars K H) (h : Qbk C p_chars K H) : Qs C p_chars K H := by
 refine Ye Tryz.func171 rfl Tryz.ntmps171 [(0, sv p_chars)] (Zo (GL.alloc (cs := (List.replicate 256 (.bool false : Value))) h trivial rfl rfl rfl ?_))
 intro b1 H2 h
 refine Za (GL.nil (GC.seq (Zo (Za (GL.nil (GC.block (Yp h (fun x3 => [(4, .int .i64 x3), (0, sv p_chars), (2, pv (some (b1, 0)))]) ?_)))))))
 intro x3 H5 J4 h
 refine GC.seq (Zo (Zm (Zm (Zr (Zi (.bool (decide ((x3 : Int) < (List.length p_chars : Int)))) (GL.nil (Yd h (fun u6 h => ?_) fun u6 h => ?_)))))))
 refine GC.skip (GC.seq (GC.block (Zo (Zm (Zm (Ys h fun c7 h => ?_))))))
 refine Za (GL.nil (GC.seq (Zo (Zm (Zi (.bool (decide (((c7.toNat : Int) : Int) ≥ 128))) (GL.nil (Yd h (fun u10 h => ?_) fun u10 h => ?_)))))))
 refine Zo ?_
 obtain ⟨x11, hl13, v12, h⟩ := h
 refine Zv (OV.loadT (p := (b1, 0)) (cs := x11) rfl rfl (by rw [hl13]; rfl) v12) ?_
 obtain ⟨hl15, h116, h⟩ := h
 refine GL.storeT (p := (b1, 0)) (vs := x11) h trivial rfl rfl h116 (by rw [hl15]; rfl) ?_
 intro H14 h
 refine Za (GL.nil ?_)
 obtain ⟨x17, hl19, v18, h⟩ := h
 exact GC.ret (fun _ _ hf hs => Qg3 rfl (RV.cellT (p := (b1, 0)) (cs := x17) rfl rfl (by rw [hl19]; rfl) v18) (RV.tmp rfl) hf hs ⟨x17, false, rfl, h⟩)
 refine GC.skip (GC.region (Zm ?_))
 obtain ⟨ha20, hb21, h⟩ := h
 refine Zv (OV.indexAddrA (p := (b1, 0)) rfl rfl rfl rfl ha20 hb21) (GL.store (p := ((b1, 0).1, (b1, 0).2 + ((c7.toNat : Int) : Int).toNat * 1)) (v := .bool true) h trivial rfl rfl rfl rfl ?_)
 intro H22 h
 refine GL.nil_to (fun _ _ h => h) (GC.region (Zm (Zi (.int .i64 (w .i64 (x3 + 1))) (Za ?_))))
 exact Yj I3 (w .i64 (x3 + 1)) h
 refine GC.exit_to (fun _ _ h => h) (Zo ?_)
 obtain ⟨x23, hl25, v24, h⟩ := h
 refine Zv (OV.loadT (p := (b1, 0)) (cs := x23) rfl rfl (by rw [hl25]; rfl) v24) ?_
 obtain ⟨hl27, h128, h⟩ := h
 refine GL.storeT (p := (b1, 0)) (vs := x23) h trivial rfl rfl h128 (by rw [hl27]; rfl) ?_
 intro H26 h
 refine Za (GL.nil ?_)
 obtain ⟨x29, hl31, v30, h⟩ := h
 exact GC.ret (fun _ _ hf hs => Qg3 rfl (RV.cellT (p := (b1, 0)) (cs := x29) rfl rfl (by rw [hl31]; rfl) v30) (RV.tmp rfl) hf hs ⟨x29, true, rfl, h⟩)
def Qba (C : Ctx) (p_s : Str) (p_as : Option (Nat × Nat)) (K : Str → Heap → Prop) (H : Heap) : Prop :=
 jn (α := Str) (fun x2 H3 =>
 K x2 H3)
 (fun J1 => lp (α := Str) p_s H (fun x5 J6 H7 =>
 ift (decide (((List.length x5 : Int) : Int) > 0))
 (ixs x5 0 fun c9 =>
 QE C p_as (c9.toNat : Int) (fun r12 H13 =>
 ift (!r12)
 (J1 x5 H13)
 (slS x5 1 (List.length x5 : Int) fun t15 =>
 J6 t15 H13)) H7)
 (J1 x5 H7)))
theorem Qct (C p_s p_as K H) (h : Qba C p_s p_as K H) : Qag C p_s p_as K H := by
 refine Ye Tryz.func172 rfl Tryz.ntmps172 [(0, sv p_s), (1, pv p_as)] (Zo (Za (GL.nil ?_)))
 obtain ⟨J1, h, hR4⟩ := h
 refine GC.join (α := Str) J1 (fun x2 => [(0, sv x2)]) ?_ ?_
 refine GC.block (Yp h (fun x5 => [(0, sv x5), (1, pv p_as)]) ?_)
 intro x5 H7 J6 h
 refine GC.seq (Zo (Zm (Zr (Zi (.bool (decide (((List.length x5 : Int) : Int) > 0))) (GL.nil (Yd h (fun u8 h => ?_) fun u8 h => ?_))))))
 refine GC.skip (GC.block (GC.seq (Zo (Zm (Zm (Ys h fun c9 h => ?_))))))
 refine Zc h Qaw ?_
 rintro _ H13 ⟨r12, rfl, h⟩
 refine Zv (OV.not rfl) (GL.nil (Yd h (fun u14 h => ?_) fun u14 h => ?_))
 exact GC.exit_jump (fun _ _ h => h) x5 h ⟨rfl, trivial⟩
 refine GC.skip (GC.region (Zm ?_))
 obtain ⟨h16, h17, h18, t15, h19, h⟩ := h
 refine Zv (OV.sliceStr (s := x5) h16 h17 h18 h19 rfl rfl rfl rfl rfl rfl) (Za ?_)
 exact Yj I3 t15 h
 exact GC.exit_jump (fun _ _ h => h) x5 h ⟨rfl, trivial⟩
 intro x2 H3 h
 replace h := hR4 x2 H3 h
 refine Zo (Zm (Za (GL.nil ?_)))
 exact Y1 I3 ⟨x2, rfl, h⟩
def QaY (C : Ctx) (p_s : Str) (p_as : Option (Nat × Nat)) (K : Str → Heap → Prop) (H : Heap) : Prop :=
 jn (α := Str) (fun x2 H3 =>
 K x2 H3)
 (fun J1 => lp (α := Str) p_s H (fun x5 J6 H7 =>
 ift (decide (((List.length x5 : Int) : Int) > 0))
 (ixs x5 (w .i64 ((List.length x5 : Int) - 1)) fun c9 =>
 QE C p_as (c9.toNat : Int) (fun r12 H13 =>
 ift (!r12)
 (J1 x5 H13)
 (slS x5 0 (w .i64 ((List.length x5 : Int) - 1)) fun t15 =>
 J6 t15 H13)) H7)
 (J1 x5 H7)))
theorem Qck (C p_s p_as K H) (h : QaY C p_s p_as K H) : Qab C p_s p_as K H := by
 refine Ye Tryz.func173 rfl Tryz.ntmps173 [(0, sv p_s), (1, pv p_as)] (Zo (Za (GL.nil ?_)))
 obtain ⟨J1, h, hR4⟩ := h
 refine GC.join (α := Str) J1 (fun x2 => [(0, sv x2)]) ?_ ?_
 refine GC.block (Yp h (fun x5 => [(0, sv x5), (1, pv p_as)]) ?_)
 intro x5 H7 J6 h
 refine GC.seq (Zo (Zm (Zr (Zi (.bool (decide (((List.length x5 : Int) : Int) > 0))) (GL.nil (Yd h (fun u8 h => ?_) fun u8 h => ?_))))))
 refine GC.skip (GC.block (GC.seq (Zo (Zm (Zm (Zm (Zr (Zi (.int .i64 (w .i64 ((List.length x5 : Int) - 1))) (Ys h fun c9 h => ?_)))))))))
 refine Zc h Qaw ?_
 rintro _ H13 ⟨r12, rfl, h⟩
 refine Zv (OV.not rfl) (GL.nil (Yd h (fun u14 h => ?_) fun u14 h => ?_))
 exact GC.exit_jump (fun _ _ h => h) x5 h ⟨rfl, trivial⟩
 refine GC.skip (GC.region (Zm (Zm (Zr (Zi (.int .i64 (w .i64 ((List.length x5 : Int) - 1))) ?_)))))
 obtain ⟨h16, h17, h18, t15, h19, h⟩ := h
 refine Zv (OV.sliceStr (s := x5) h16 h17 h18 h19 rfl rfl rfl rfl rfl rfl) (Za ?_)
 exact Yj I3 t15 h
 exact GC.exit_jump (fun _ _ h => h) x5 h ⟨rfl, trivial⟩
 intro x2 H3 h
 replace h := hR4 x2 H3 h
 refine Zo (Zm (Za (GL.nil ?_)))
 exact Y1 I3 ⟨x2, rfl, h⟩
def Qap (C : Ctx) (p_s : Str) (p_substr : Str) (K : Int → Heap → Prop) (H : Heap) : Prop :=
 ift ((((List.length p_substr : Int) : Int) == 0) || (p_substr == p_s))
 (K 0 H)
 (ift (((List.length p_substr : Int) : Int) == 1)
 (ixs p_substr 0 fun c4 =>
 QJ C p_s (c4.toNat : Int) (fun r7 H8 =>
 K r7 H8) H)
 (ift (decide (((List.length p_substr : Int) : Int) ≥ (List.length p_s : Int)))
 (K (-1) H)
 (ldI H .i64 (1, 0) fun x10 =>
 ift ((decide (((List.length p_substr : Int) : Int) ≤ x10)) && (decide (((List.length p_s : Int) : Int) ≤ 64)))
 (False)
 (ixs p_substr 0 fun c14 =>
 ixs p_substr 1 fun c17 =>
 lp (α := Int × Int) (0, 0) H (fun x20 J21 H22 =>
 ift (decide ((x20.1 : Int) < (w .i64 ((w .i64 ((List.length p_s : Int) - (List.length p_substr : Int))) + 1))))
 (jn (α := Int) (fun x25 H26 =>
 ixs p_s (w .i64 (x25 + 1)) fun c41 =>
 jn (α := Bool) (fun b44 H54 =>
 ift b44
 (K x25 H54)
 (ldI H54 .i64 (1, 0) fun x56 =>
 jn (α := Bool) (fun b58 H64 =>
 ift b58
 (False)
 (ldI H64 .i64 (1, 0) fun x72 =>
 ift (((decide (((List.length p_substr : Int) : Int) > x72)) && (decide (((w .i64 (x20.2 + 1)) : Int) ≥ (w .i64 (4 + (sShr .i64 (w .i64 (x25 + 1)) 4)))))) && (decide (((w .i64 (x25 + 1)) : Int) < (w .i64 ((w .i64 ((List.length p_s : Int) - (List.length p_substr : Int))) + 1)))))
 (slS p_s (w .i64 (x25 + 1)) (List.length p_s : Int) fun t77 =>
 QaB C t77 p_substr (fun r83 H84 =>
 ift (decide ((r83 : Int) < 0))
 (K (-1) H84)
 (K (w .i64 ((w .i64 (x25 + 1)) + r83)) H84)) H64)
 (J21 ((w .i64 (x25 + 1)), (w .i64 (x20.2 + 1))) H64)))
 (fun J59 => ift (decide (((List.length p_substr : Int) : Int) ≤ x56))
 (Qb7 C (w .i64 (x25 + 1)) (fun r62 H63 =>
 J59 (decide (((w .i64 (x20.2 + 1)) : Int) > r62)) H63) H54)
 (J59 false H54))))
 (fun J45 => ift (((c41.toNat : Int) : Int) == (c17.toNat : Int))
 (slS p_s x25 (w .i64 (x25 + (List.length p_substr : Int))) fun t48 =>
 J45 (t48 == p_substr) H26)
 (J45 false H26)))
 (fun J24 => ixs p_s x20.1 fun c28 =>
 ift (((c28.toNat : Int) : Int) != (c14.toNat : Int))
 (slS p_s (w .i64 (x20.1 + 1)) (w .i64 ((w .i64 ((List.length p_s : Int) - (List.length p_substr : Int))) + 1)) fun t32 =>
 QJ C t32 (c14.toNat : Int) (fun r38 H39 =>
 ift (decide ((r38 : Int) < 0))
 (K (-1) H39)
 (J24 (w .i64 (x20.1 + (w .i64 (r38 + 1)))) H39)) H22)
 (J24 x20.1 H22)))
 (K (-1) H22))))))
theorem Qbx (C p_s p_substr K H) (h : Qap C p_s p_substr K H) : QS C p_s p_substr K H := by
 refine Ye Tryz.func176 rfl Tryz.ntmps176 [(0, sv p_s), (1, sv p_substr)] (Zo (Za (GL.nil (Zo (Zm (Zr (Za (GL.nil (GC.seq (GC.block (Zo (Zm (Zi (.bool (((List.length p_substr : Int) : Int) == 0)) (Zm (GL.cut0 4 [(23, .bool ((((List.length p_substr : Int) : Int) == 0) || (p_substr == p_s))), (0, sv p_s), (1, sv p_substr), (5, .int .i64 (List.length p_substr : Int))] ?_ ?_)))))))))))))))
 rcases Zb (((List.length p_substr : Int) : Int) == 0) with hc1 | hc1
 refine Zk hc1 (Zk hc1 (Zk hc1 (Zt hc1 ?_)))
 exact GL.jump0 (fun _ _ h => h) () rfl ⟨(by rw [hc1]; rfl), rfl, rfl, rfl, trivial⟩
 refine Zu hc1 Ym (Zu hc1 Ym (Zu hc1 (OV.sbin (a := p_substr) (b := p_s) (v := .bool (p_substr == p_s)) rfl rfl rfl) (Zn hc1 ?_)))
 exact GL.jump0 (fun _ _ h => h) () rfl ⟨(by rw [hc1]; rfl), rfl, rfl, rfl, trivial⟩
 refine Za (GL.nil (Yd h (fun hc2 h => ?_) fun hc2 h => ?_))
 refine Zo (Za (GL.nil ?_))
 exact Y1 I3 ⟨0, rfl, h⟩
 refine Zo (Zm (Zi (.bool (((List.length p_substr : Int) : Int) == 1)) (Za (GL.nil (Yd h (fun hc3 h => ?_) fun hc3 h => ?_)))))
 refine Zo (Zm (Zm (Ys h fun c4 h => ?_)))
 refine Zc h Q6 ?_
 rintro _ H8 ⟨r7, rfl, h⟩
 refine Za (GL.nil ?_)
 exact Y1 I3 ⟨r7, rfl, h⟩
 refine Zo (Zm (Zm (Zr (Zi (.bool (decide (((List.length p_substr : Int) : Int) ≥ (List.length p_s : Int)))) (Za (GL.nil (Yd h (fun hc9 h => ?_) fun hc9 h => ?_)))))))
 refine Zo (Za (GL.nil ?_))
 exact Y1 I3 ⟨(-1), rfl, h⟩
 refine Zo (Zm (Yl h fun x10 h => ?_))
 refine Zi (.bool (decide (((List.length p_substr : Int) : Int) ≤ x10))) (Zm (GL.cut0 4 [(44, .bool ((decide (((List.length p_substr : Int) : Int) ≤ x10)) && (decide (((List.length p_s : Int) : Int) ≤ 64)))), (0, sv p_s), (1, sv p_substr), (5, .int .i64 (List.length p_substr : Int))] ?_ ?_))
 rcases Zb (decide (((List.length p_substr : Int) : Int) ≤ x10)) with hc12 | hc12
 refine Zu hc12 Ym (Zu hc12 (OV.lenStr rfl rfl) (Zu hc12 (OV.ibin (v := .bool (decide (((List.length p_s : Int) : Int) ≤ 64))) rfl rfl rfl) (Zt hc12 ?_)))
 exact GL.jump0 (fun _ _ h => h) () rfl ⟨(by rw [hc12]; rfl), rfl, rfl, rfl, trivial⟩
 refine Zk hc12 (Zk hc12 (Zk hc12 (Zn hc12 ?_)))
 exact GL.jump0 (fun _ _ h => h) () rfl ⟨(by rw [hc12]; rfl), rfl, rfl, rfl, trivial⟩
 refine Za (GL.nil (Yd h (fun hc13 h => ?_) fun hc13 h => ?_))
 refine GC.seq ?_
 exact GC.never h
 refine GC.skip_to (fun _ _ h => h) (Zo (Zm ?_))
 refine Ys h fun c14 h => ?_
 refine Za (GL.nil (Zo (Zm (Ys h fun c17 h => ?_))))
 refine Za (GL.nil (Zo (Za (GL.nil (Zo (Zm (Zr (Zm (Zi (.int .i64 (w .i64 ((List.length p_s : Int) - (List.length p_substr : Int)))) (Zi (.int .i64 (w .i64 ((w .i64 ((List.length p_s : Int) - (List.length p_substr : Int))) + 1))) (Za (GL.nil (Zo (Za (GL.nil (GC.seq (GC.block (Yp h (fun x20 => [(8, .int .i64 x20.1), (10, .int .i64 x20.2), (0, sv p_s), (1, sv p_substr), (5, .int .i64 (List.length p_substr : Int)), (6, .int .u8 (c14.toNat : Int)), (7, .int .u8 (c17.toNat : Int)), (9, .int .i64 (w .i64 ((w .i64 ((List.length p_s : Int) - (List.length p_substr : Int))) + 1)))]) ?_))))))))))))))))))
 intro x20 H22 J21 h
 refine GC.seq (Zo (Zm (Zm (Zi (.bool (decide ((x20.1 : Int) < (w .i64 ((w .i64 ((List.length p_s : Int) - (List.length p_substr : Int))) + 1))))) (GL.nil (Yd h (fun hc23 h => ?_) fun hc23 h => ?_))))))
 refine GC.skip (GC.block ?_)
 obtain ⟨J24, h, hR27⟩ := h
 refine GC.join (α := Int) J24 (fun x25 => [(8, .int .i64 x25), (0, sv p_s), (1, sv p_substr), (5, .int .i64 (List.length p_substr : Int)), (6, .int .u8 (c14.toNat : Int)), (7, .int .u8 (c17.toNat : Int)), (9, .int .i64 (w .i64 ((w .i64 ((List.length p_s : Int) - (List.length p_substr : Int))) + 1))), (10, .int .i64 x20.2)]) ?_ ?_
 refine Zo (Zm (Zm (Ys h fun c28 h => ?_)))
 refine Zm (Zi (.bool (((c28.toNat : Int) : Int) != (c14.toNat : Int))) (GL.nil (Yd h (fun hc31 h => ?_) fun hc31 h => ?_)))
 refine Zo (Zm (Zm (Zi (.int .i64 (w .i64 (x20.1 + 1))) (Zm ?_))))
 obtain ⟨h33, h34, h35, t32, h36, h⟩ := h
 refine Zv (OV.sliceStr (s := p_s) h33 h34 h35 h36 rfl rfl rfl rfl rfl rfl) (Zm (Zc h Q6 ?_))
 rintro _ H39 ⟨r38, rfl, h⟩
 refine Za (GL.nil (GC.seq (Zo (Zm (Zi (.bool (decide ((r38 : Int) < 0))) (GL.nil (Yd h (fun hc40 h => ?_) fun hc40 h => ?_)))))))
 refine Zo (Za (GL.nil ?_))
 exact Y1 I3 ⟨(-1), rfl, h⟩
 refine GC.skip (GC.region (Zm (Zm (Zi (.int .i64 (w .i64 (r38 + 1))) (Zi (.int .i64 (w .i64 (x20.1 + (w .i64 (r38 + 1))))) (Za ?_))))))
 exact Yj I3 (w .i64 (x20.1 + (w .i64 (r38 + 1)))) h
 exact Yk I3 x20.1 h
 intro x25 H26 h
 replace h := hR27 x25 H26 h
 refine GC.seq (Zo (Zm (Zm (Zi (.int .i64 (w .i64 (x25 + 1))) (Ys h fun c41 h => ?_)))))
 refine Zm (Zi (.bool (((c41.toNat : Int) : Int) == (c17.toNat : Int))) (Zm ?_))
 obtain ⟨J45, h, hR46⟩ := h
 refine GL.cut (α := Bool) 9 J45 (fun b44 => [(93, .bool b44), (0, sv p_s), (1, sv p_substr), (5, .int .i64 (List.length p_substr : Int)), (6, .int .u8 (c14.toNat : Int)), (7, .int .u8 (c17.toNat : Int)), (8, .int .i64 x25), (9, .int .i64 (w .i64 ((w .i64 ((List.length p_s : Int) - (List.length p_substr : Int))) + 1))), (10, .int .i64 x20.2)]) ?_ ?_
 rcases h.em with ⟨hc47, h⟩ | ⟨hc47, h⟩
 refine Zu hc47 Ym (Zu hc47 Ym (Zu hc47 Ym (Zu hc47 Ym (Zu hc47 (OV.ibin (v := .int .i64 (w .i64 (x25 + (List.length p_substr : Int)))) rfl rfl rfl) ?_))))
 obtain ⟨h49, h50, h51, t48, h52, h⟩ := h
 refine Zu hc47 (OV.sliceStr (s := p_s) h49 h50 h51 h52 rfl rfl rfl rfl rfl rfl) (Zu hc47 Ym (Zu hc47 (OV.sbin (a := t48) (b := p_substr) (v := .bool (t48 == p_substr)) rfl rfl rfl) (Zt hc47 ?_)))
 exact Yj I3 (t48 == p_substr) h
 refine Zk hc47 (Zk hc47 (Zk hc47 (Zk hc47 (Zk hc47 (Zk hc47 (Zk hc47 (Zk hc47 (Zn hc47 ?_))))))))
 exact Yj I3 false h
 intro b44 H54 h
 replace h := hR46 b44 H54 h
 refine GL.nil (Yd h (fun hc55 h => ?_) fun hc55 h => ?_)
 refine Zo (Zm (Za (GL.nil ?_)))
 exact Y1 I3 ⟨x25, rfl, h⟩
 refine GC.skip (Zo (Zm (Zi (.int .i64 (w .i64 (x25 + 1))) (Za (GL.nil (Zo (Zm (Zi (.int .i64 (w .i64 (x20.2 + 1))) (Za (GL.nil (Zo (Zm (Yl h fun x56 h => ?_)))))))))))))
 refine Zi (.bool (decide (((List.length p_substr : Int) : Int) ≤ x56))) (Zm ?_)
 obtain ⟨J59, h, hR60⟩ := h
 refine GL.cut (α := Bool) 5 J59 (fun b58 => [(107, .bool b58), (0, sv p_s), (1, sv p_substr), (5, .int .i64 (List.length p_substr : Int)), (6, .int .u8 (c14.toNat : Int)), (7, .int .u8 (c17.toNat : Int)), (8, .int .i64 (w .i64 (x25 + 1))), (9, .int .i64 (w .i64 ((w .i64 ((List.length p_s : Int) - (List.length p_substr : Int))) + 1))), (10, .int .i64 (w .i64 (x20.2 + 1)))]) ?_ ?_
 rcases h.em with ⟨hc61, h⟩ | ⟨hc61, h⟩
 refine Zu hc61 Ym (Zu hc61 Ym (GL.call h (Yt hc61) rfl QbX (vs := [.int .i64 (w .i64 (x25 + 1))]) rfl ?_))
 rintro _ H63 ⟨r62, rfl, h⟩
 refine Zu hc61 (OV.ibin (v := .bool (decide (((w .i64 (x20.2 + 1)) : Int) > r62))) rfl rfl rfl) (Zt hc61 ?_)
 exact Yj I3 (decide (((w .i64 (x20.2 + 1)) : Int) > r62)) h
 refine Zk hc61 (Zk hc61 (Zk hc61 (Zk hc61 (Zn hc61 ?_))))
 exact Yj I3 false h
 intro b58 H64 h
 replace h := hR60 b58 H64 h
 refine GL.nil (Yd h (fun hc65 h => ?_) fun hc65 h => ?_)
 refine GC.seq ?_
 exact GC.never h
 refine Zo (Zm (Yl h fun x72 h => ?_))
 refine Zi (.bool (decide (((List.length p_substr : Int) : Int) > x72))) (Zm (GL.cut0 6 [(127, .bool ((decide (((List.length p_substr : Int) : Int) > x72)) && (decide (((w .i64 (x20.2 + 1)) : Int) ≥ (w .i64 (4 + (sShr .i64 (w .i64 (x25 + 1)) 4))))))), (0, sv p_s), (1, sv p_substr), (5, .int .i64 (List.length p_substr : Int)), (6, .int .u8 (c14.toNat : Int)), (7, .int .u8 (c17.toNat : Int)), (8, .int .i64 (w .i64 (x25 + 1))), (9, .int .i64 (w .i64 ((w .i64 ((List.length p_s : Int) - (List.length p_substr : Int))) + 1))), (10, .int .i64 (w .i64 (x20.2 + 1)))] ?_ ?_))
 rcases Zb (decide (((List.length p_substr : Int) : Int) > x72)) with hc74 | hc74
 refine Zu hc74 Ym (Zu hc74 Ym (Zu hc74 (OV.shr rfl rfl (by decide)) (Zu hc74 (OV.ibin (v := .int .i64 (w .i64 (4 + (sShr .i64 (w .i64 (x25 + 1)) 4)))) rfl rfl rfl) (Zu hc74 (OV.ibin (v := .bool (decide (((w .i64 (x20.2 + 1)) : Int) ≥ (w .i64 (4 + (sShr .i64 (w .i64 (x25 + 1)) 4)))))) rfl rfl rfl) (Zt hc74 ?_)))))
 exact GL.jump0 (fun _ _ h => h) () rfl ⟨(by rw [hc74]; rfl), rfl, rfl, rfl, rfl, rfl, rfl, rfl, rfl, trivial⟩
 refine Zk hc74 (Zk hc74 (Zk hc74 (Zk hc74 (Zk hc74 (Zn hc74 ?_)))))
 exact GL.jump0 (fun _ _ h => h) () rfl ⟨(by rw [hc74]; rfl), rfl, rfl, rfl, rfl, rfl, rfl, rfl, rfl, trivial⟩
 refine Zm (GL.cut0 4 [(132, .bool (((decide (((List.length p_substr : Int) : Int) > x72)) && (decide (((w .i64 (x20.2 + 1)) : Int) ≥ (w .i64 (4 + (sShr .i64 (w .i64 (x25 + 1)) 4)))))) && (decide (((w .i64 (x25 + 1)) : Int) < (w .i64 ((w .i64 ((List.length p_s : Int) - (List.length p_substr : Int))) + 1)))))), (0, sv p_s), (1, sv p_substr), (5, .int .i64 (List.length p_substr : Int)), (6, .int .u8 (c14.toNat : Int)), (7, .int .u8 (c17.toNat : Int)), (8, .int .i64 (w .i64 (x25 + 1))), (9, .int .i64 (w .i64 ((w .i64 ((List.length p_s : Int) - (List.length p_substr : Int))) + 1))), (10, .int .i64 (w .i64 (x20.2 + 1)))] ?_ ?_)
 rcases Zb ((decide (((List.length p_substr : Int) : Int) > x72)) && (decide (((w .i64 (x20.2 + 1)) : Int) ≥ (w .i64 (4 + (sShr .i64 (w .i64 (x25 + 1)) 4)))))) with hc75 | hc75
 refine Zu hc75 Ym (Zu hc75 Ym (Zu hc75 (OV.ibin (v := .bool (decide (((w .i64 (x25 + 1)) : Int) < (w .i64 ((w .i64 ((List.length p_s : Int) - (List.length p_substr : Int))) + 1))))) rfl rfl rfl) (Zt hc75 ?_)))
 exact GL.jump0 (fun _ _ h => h) () rfl ⟨(by rw [hc75]; rfl), rfl, rfl, rfl, rfl, rfl, rfl, rfl, rfl, trivial⟩
 refine Zk hc75 (Zk hc75 (Zk hc75 (Zn hc75 ?_)))
 exact GL.jump0 (fun _ _ h => h) () rfl ⟨(by rw [hc75]; rfl), rfl, rfl, rfl, rfl, rfl, rfl, rfl, rfl, trivial⟩
 refine GL.nil (Yd h (fun hc76 h => ?_) fun hc76 h => ?_)
 refine Zo (Zm (Zm ?_))
 obtain ⟨h78, h79, h80, t77, h81, h⟩ := h
 refine Zv (OV.sliceStr (s := p_s) h78 h79 h80 h81 rfl rfl rfl rfl rfl rfl) (Zm (Zc h Qau ?_))
 rintro _ H84 ⟨r83, rfl, h⟩
 refine Za (GL.nil (GC.seq (Zo (Zm (Zi (.bool (decide ((r83 : Int) < 0))) (GL.nil (Yd h (fun hc85 h => ?_) fun hc85 h => ?_)))))))
 refine Zo (Za (GL.nil ?_))
 exact Y1 I3 ⟨(-1), rfl, h⟩
 refine GC.skip (Zo (Zm (Zm (Zi (.int .i64 (w .i64 ((w .i64 (x25 + 1)) + r83))) (Za (GL.nil ?_))))))
 exact Y1 I3 ⟨(w .i64 ((w .i64 (x25 + 1)) + r83)), rfl, h⟩
 exact Yk I3 ((w .i64 (x25 + 1)), (w .i64 (x20.2 + 1))) h
 refine GC.exit_to (fun _ _ h => h) (Zo (Za (GL.nil ?_)))
 exact Y1 I3 ⟨(-1), rfl, h⟩
def Qaz (C : Ctx) (p_as : Option (Nat × Nat)) (p_c : Int) (K : Bool → Heap → Prop) (H : Heap) : Prop :=
 nck p_as fun p1 =>
 ixr p1 256 p_c <|
 ldB H (p1.1, p1.2 + (p_c : Int).toNat * 1) fun x5 =>
 K x5 H
theorem QbL (C p_as p_c K H) (h : Qaz C p_as p_c K H) : QE C p_as p_c K H := by
 refine Ye Tryz.func182 rfl Tryz.ntmps182 [(0, pv p_as), (1, .int .u8 p_c)] (Zo (Za (GL.nil (Zo (Zm (Zm ?_))))))
 obtain ⟨p1, hp2, h⟩ := h
 refine Zv (OV.nilCheck (q := p_as) rfl hp2) ?_
 obtain ⟨ha3, hb4, h⟩ := h
 refine Zv (OV.indexAddrA (p := p1) rfl rfl rfl rfl ha3 hb4) (Yl h fun x5 h => ?_)
 refine Za (GL.nil ?_)
 exact Y1 I3 ⟨x5, rfl, h⟩
def Q8 (C : Ctx) (p_s : Str) (p_c : Int) (K : Int → Heap → Prop) (H : Heap) : Prop :=
 K (idxB p_s p_c) H
theorem Qbe (C p_s p_c K H) (h : Q8 C p_s p_c K H) : QJ C p_s p_c K H := by
 refine Ye Tryz.func186 rfl Tryz.ntmps186 [(0, sv p_s), (1, .int .u8 p_c)] (Zo (Za (GL.nil (Zo (Zm (Zm (Zv (OV.ext QaW (vs := [sv p_s, .int .u8 p_c]) (v := .int .i64 (idxB p_s p_c)) rfl (fun w => Qjt _ _ w)) (Za (GL.nil ?_)))))))))
 exact Y1 I3 ⟨(idxB p_s p_c), rfl, h⟩
end
end Sx
end
noncomputable section
set_option linter.unusedVariables false
namespace Go.Proofs
open Go.Shelf
def Tryz.lays173_ren : Go.Shelf.Ren := ⟨fun | 173 => 100 | 246 => 140 | 283 => 159 | 284 => 160 | 285 => 161 | 286 => 162 | 129 => 87 | 317 => 177 | 318 => 178 | 319 => 179 | 320 => 180 | 337 => 190 | 338 => 191 | n => n, fun | 2 => 2 | 3 => 3 | 9 => 9 | 4 => 4 | 171 => 187 | 0 => 0 | 53 => 124 | 37 => 134 | 5 => 5 | 173 => 189 | 212 => 203 | 51 => 122 | 20 => 20 | 213 => 204 | 46 => 100 | 232 => 212 | 233 => 213 | n => n, fun | 17 => 0 | 18 => 2 | 19 => 3 | n => n⟩
theorem Tryz.lays173 : Go.Proofs.LaysM.n173 Tryz.prog Tryz.lays173_ren := {
 mixed := by kernel_rfl
 f129 := Tryz.func87.trans (congrArg some (by kernel_rfl))
 f173 := Tryz.func100.trans (congrArg some (by kernel_rfl))
 f246 := Tryz.func140.trans (congrArg some (by kernel_rfl))
 f283 := Tryz.func159.trans (congrArg some (by kernel_rfl))
 f284 := Tryz.func160.trans (congrArg some (by kernel_rfl))
 f285 := Tryz.func161.trans (congrArg some (by kernel_rfl))
 f286 := Tryz.func162.trans (congrArg some (by kernel_rfl))
 f317 := Tryz.func177.trans (congrArg some (by kernel_rfl))
 f318 := Tryz.func178.trans (congrArg some (by kernel_rfl))
 f319 := Tryz.func179.trans (congrArg some (by kernel_rfl))
 f320 := Tryz.func180.trans (congrArg some (by kernel_rfl))
 f337 := Tryz.func190.trans (congrArg some (by kernel_rfl))
 f338 := Tryz.func191.trans (congrArg some (by kernel_rfl))
 t0 := Tryz.underlying0
 a0 := Tryz.isAgg0
 z0 := Tryz.sizeOf0
 v0 := Tryz.zeroValue0
 t2 := Tryz.underlying2
 a2 := Tryz.isAgg2
 z2 := Tryz.sizeOf2
 v2 := Tryz.zeroValue2
 t3 := Tryz.underlying3
 a3 := Tryz.isAgg3
 z3 := Tryz.sizeOf3
 v3 := Tryz.zeroValue3
 t4 := Tryz.underlying4
 a4 := Tryz.isAgg4
 z4 := Tryz.sizeOf4
 v4 := Tryz.zeroValue4
 t5 := Tryz.underlying5
 a5 := Tryz.isAgg5
 z5 := Tryz.sizeOf5
 v5 := Tryz.zeroValue5
 t9 := Tryz.underlying9
 a9 := Tryz.isAgg9
 z9 := Tryz.sizeOf9
 v9 := Tryz.zeroValue9
 t20 := Tryz.underlying20
 a20 := Tryz.isAgg20
 z20 := Tryz.sizeOf20
 v20 := Tryz.zeroValue20
 t37 := Tryz.underlying134
 a37 := Tryz.isAgg134
 z37 := Tryz.sizeOf134
 v37 := Tryz.zeroValue134
 t46 := Tryz.underlying100
 a46 := Tryz.isAgg100
 z46 := Tryz.sizeOf100
 v46 := Tryz.zeroValue100
 t51 := Tryz.underlying122
 a51 := Tryz.isAgg122
 z51 := Tryz.sizeOf122
 v51 := Tryz.zeroValue122
 t53 := Tryz.underlying124
 a53 := Tryz.isAgg124
 z53 := Tryz.sizeOf124
 v53 := Tryz.zeroValue124
 t171 := Tryz.underlying187
 a171 := Tryz.isAgg187
 z171 := Tryz.sizeOf187
 v171 := Tryz.zeroValue187
 t173 := Tryz.underlying189
 a173 := Tryz.isAgg189
 z173 := Tryz.sizeOf189
 v173 := Tryz.zeroValue189
 t212 := Tryz.underlying203
 a212 := Tryz.isAgg203
 z212 := Tryz.sizeOf203
 v212 := Tryz.zeroValue203
 t213 := Tryz.underlying204
 a213 := Tryz.isAgg204
 z213 := Tryz.sizeOf204
 t232 := Tryz.underlying212
 a232 := Tryz.isAgg212
 z232 := Tryz.sizeOf212
 v232 := Tryz.zeroValue212
 t233 := Tryz.underlying213
 a233 := Tryz.isAgg213
 z233 := Tryz.sizeOf213
 v233 := Tryz.zeroValue213
 g17 := by kernel_rfl
 g18 := by kernel_rfl
 g19 := by kernel_rfl
 i0 := by kernel_rfl
 i2 := by kernel_rfl
 i3 := by kernel_rfl
 i4 := by kernel_rfl
 i5 := by kernel_rfl
 i9 := by kernel_rfl
 i20 := by kernel_rfl
 i37 := by kernel_rfl
 i46 := by kernel_rfl
 i51 := by kernel_rfl
 i53 := by kernel_rfl
 i171 := by kernel_rfl
 i173 := by kernel_rfl
 i212 := by kernel_rfl
 i232 := by kernel_rfl
 i233 := by kernel_rfl
 m17 := by kernel_rfl
 m18 := by kernel_rfl
 m19 := by kernel_rfl }
end Go.Proofs
namespace Sx
open Go Go.Proofs Go.Stop Go.RowKit
/-- the table of powers, as it was laid -/
def PowT (C : Ctx) : Prop := ∃ t fr, C.old[(Tryz.lays173_ren.g 17)]? = some (.cells (Lib.pow10Tab.map fun z => Value.int .u64 z).toArray t fr)
/-- what writes numbers -/
structure FmtC (C : Ctx) : Prop where
 ok : ∀ {n : Int} {H : Heap} {K : Str → Heap → Prop}, -9223372036854775808 ≤ n → n ≤ 9223372036854775807 → K (Lib.itoa n) H → QbU C n 10 K H
theorem St.more {C : Ctx} {w : World} {H : Heap} (h : St C w H) (o : Obj) : St C { w with heap := w.heap.push o } H := by
 by_cases hc : ∃ c t fr, o = .cells c t fr
 ·obtain ⟨c, t, fr, rfl⟩ := hc
  exact (h.push (o := .cells c t fr) (m := false) (g := .row c.toList) ⟨by simp, fun h => by cases h⟩).weaken (Heap.le_put h.fresh)
 ·exact (h.push (o := o) (m := false) (g := .obj o) ⟨rfl, fun c t fr e => hc ⟨c, t, fr, e⟩⟩).weaken (Heap.le_put h.fresh)
theorem St.growL {C : Ctx} {H : Heap} : ∀ (os : List Obj) {w : World}, St C w H → St C { w with heap := w.heap ++ os.toArray } H
 | [], w, h => by
  have e : w.heap ++ ([] : List Obj).toArray = w.heap := by simp
  rw [e]; exact h
 | o :: os, w, h => by
  have e : w.heap ++ (o :: os).toArray = w.heap.push o ++ os.toArray := by apply Array.ext'; simp
  have := St.growL os (h.more o)
  rw [e]; exact this
theorem St.drewN {C : Ctx} {H : Heap} {w : World} (h : St C w H) : ∀ k, St C (w.drewN k) H
 | 0 => h
 | k + 1 => (St.drewN h k).drew
theorem Qkh {C : Ctx} (hT : PowT C) : FmtC C := ⟨fun {n H K} h0 h1 k => by
 intro w hw
 obtain ⟨t, fr, hg⟩ := hT
 have hlt := (Array.getElem?_eq_some_iff.1 hg).1
 refine (Any.strconv_FormatInt_10 Tryz.lays173 n h0 h1 w ?_).mono ?_
 ·unfold Lib.TabIs World.var?
  rw [Tryz.lays173.m17]
  simp only [Option.bind_some]
  rw [hw.old _ hlt, hg]
 ·rintro e w' ⟨rfl, k', os, rfl⟩
  have h2 := St.growL os.toList (hw.drewN k')
  rw [Array.toArray_toList] at h2
  exact ⟨_, H, rfl, h2, ⟨_, rfl, k⟩⟩⟩
theorem QhQ {W : World} {name : String} (hg : Tryz.prog.globalNamed name = some (Tryz.lays173_ren.g 17)) : ∀ (i : Nat) {l : List (String × DataW Unit)} {ps : List MemPlace}, DataW.LaidVars Tryz.prog W l ps → l[i]? = some (name, Lib.tabData .u64 Lib.pow10Tab) → PowT (ctxOf W)
 | _, [], ps, _, hi => by simp at hi
 | 0, (n, d) :: r, ps, ⟨g, t, cs, fuel, p, q, h1, h2, h3, h4, h5, h6⟩, hi => by
  simp only [List.getElem?_cons_zero, Option.some.injEq, Prod.mk.injEq] at hi
  obtain ⟨rfl, rfl⟩ := hi
  obtain rfl := Option.some.inj (hg.symm.trans h1)
  have hT : (Tryz.prog.globals[(Tryz.lays173_ren.g 17)]?).map (·.type) = some 203 := by kernel_rfl
  obtain rfl := Option.some.inj (hT.symm.trans h2)
  have hc := Lib.cells_of_tab Tryz.underlying203 Tryz.underlying124 (by kernel_rfl) (by kernel_rfl) h4
  unfold World.var? at h3
  rw [h1] at h3
  simp only [Option.bind_some] at h3
  cases hb : W.heap[(Tryz.lays173_ren.g 17)]? with
  | none => rw [hb] at h3; cases h3
  | some o =>
   rw [hb] at h3
   cases o <;> simp only [reduceCtorEq, Option.some.injEq] at h3
   rename_i c ty fr
   subst h3
   refine ⟨ty, fr, ?_⟩
   show W.heap[(Tryz.lays173_ren.g 17)]? = _
   rw [hb, ← hc]
 | i + 1, (n, d) :: r, ps, ⟨g, t, cs, fuel, p, q, h1, h2, h3, h4, h5, h6⟩, hi => QhQ hg i h5 (by simpa using hi)
theorem Qj5 {W : World} {name : String} {l : List (String × DataW Unit)} (h : laidMet Tryz.prog l W) (i : Nat) (hi : l[i]? = some (name, Lib.tabData .u64 Lib.pow10Tab)) (hg : Tryz.prog.globalNamed name = some (Tryz.lays173_ren.g 17)) : PowT (ctxOf W) := by
 obtain ⟨ps, h1, _⟩ := h
 exact QhQ hg i h1 hi
end Sx
end

noncomputable section
set_option linter.unusedVariables false
namespace Go.Proofs
open Go.Shelf
def Tryz.laysSrt_ren : Go.Shelf.Ren := ⟨fun | 6 => 55 | 15 => 62 | 14 => 73 | 28 => 86 | 29 => 87 | 20 => 104 | 21 => 105 | 22 => 106 | 23 => 107 | 24 => 108 | 25 => 109 | 26 => 110 | 27 => 111 | 46 => 141 | 47 => 127 | 48 => 128 | 49 => 142 | 50 => 143 | 57 => 163 | n => n, fun | 22 => 53 | 24 => 28 | 25 => 58 | 3 => 3 | 39 => 100 | 0 => 0 | 53 => 122 | 55 => 124 | 4 => 4 | 46 => 116 | 45 => 115 | 50 => 107 | 5 => 5 | 9 => 9 | 66 => 160 | 70 => 164 | 76 => 177 | 77 => 178 | n => n, fun | n => n⟩
theorem Tryz.laysSrt : Go.Proofs.SlLaysF.n6 Tryz.prog Tryz.laysSrt_ren := {
 mixed := by kernel_rfl
 f6 := ⟨Tryz.f55.name, by decide, Tryz.func55.trans (congrArg some (by kernel_rfl))⟩
 f14 := ⟨Tryz.f73.name, by decide, Tryz.func73.trans (congrArg some (by kernel_rfl))⟩
 f15 := Tryz.func62.trans (congrArg some (by kernel_rfl))
 f20 := ⟨Tryz.f104.name, by decide, Tryz.func104.trans (congrArg some (by kernel_rfl))⟩
 f21 := ⟨Tryz.f105.name, by decide, Tryz.func105.trans (congrArg some (by kernel_rfl))⟩
 f22 := ⟨Tryz.f106.name, by decide, Tryz.func106.trans (congrArg some (by kernel_rfl))⟩
 f23 := ⟨Tryz.f107.name, by decide, Tryz.func107.trans (congrArg some (by kernel_rfl))⟩
 f24 := ⟨Tryz.f108.name, by decide, Tryz.func108.trans (congrArg some (by kernel_rfl))⟩
 f25 := ⟨Tryz.f109.name, by decide, Tryz.func109.trans (congrArg some (by kernel_rfl))⟩
 f26 := ⟨Tryz.f110.name, by decide, Tryz.func110.trans (congrArg some (by kernel_rfl))⟩
 f27 := ⟨Tryz.f111.name, by decide, Tryz.func111.trans (congrArg some (by kernel_rfl))⟩
 f28 := Tryz.func86.trans (congrArg some (by kernel_rfl))
 f29 := Tryz.func87.trans (congrArg some (by kernel_rfl))
 f46 := ⟨Tryz.f141.name, by decide, Tryz.func141.trans (congrArg some (by kernel_rfl))⟩
 f47 := Tryz.func127.trans (congrArg some (by kernel_rfl))
 f48 := Tryz.func128.trans (congrArg some (by kernel_rfl))
 f49 := ⟨Tryz.f142.name, by decide, Tryz.func142.trans (congrArg some (by kernel_rfl))⟩
 f50 := ⟨Tryz.f143.name, by decide, Tryz.func143.trans (congrArg some (by kernel_rfl))⟩
 f57 := ⟨Tryz.f163.name, by decide, Tryz.func163.trans (congrArg some (by kernel_rfl))⟩
 t0 := Tryz.underlying0
 a0 := Tryz.isAgg0
 z0 := Tryz.sizeOf0
 v0 := Tryz.zeroValue0
 t3 := Tryz.underlying3
 a3 := Tryz.isAgg3
 z3 := Tryz.sizeOf3
 v3 := Tryz.zeroValue3
 t4 := Tryz.underlying4
 a4 := Tryz.isAgg4
 z4 := Tryz.sizeOf4
 v4 := Tryz.zeroValue4
 t5 := Tryz.underlying5
 a5 := Tryz.isAgg5
 z5 := Tryz.sizeOf5
 v5 := Tryz.zeroValue5
 t9 := Tryz.underlying9
 a9 := Tryz.isAgg9
 z9 := Tryz.sizeOf9
 v9 := Tryz.zeroValue9
 t22 := Tryz.underlying53
 a22 := Tryz.isAgg53
 z22 := Tryz.sizeOf53
 v22 := Tryz.zeroValue53
 a24 := Tryz.isAgg28
 z24 := Tryz.sizeOf28
 t25 := Tryz.underlying58
 a25 := Tryz.isAgg58
 z25 := Tryz.sizeOf58
 v25 := Tryz.zeroValue58
 t39 := Tryz.underlying100
 a39 := Tryz.isAgg100
 z39 := Tryz.sizeOf100
 v39 := Tryz.zeroValue100
 t45 := Tryz.underlying115
 a45 := Tryz.isAgg115
 z45 := Tryz.sizeOf115
 v45 := Tryz.zeroValue115
 t46 := Tryz.underlying116
 a46 := Tryz.isAgg116
 z46 := Tryz.sizeOf116
 v46 := Tryz.zeroValue116
 t50 := Tryz.underlying107
 a50 := Tryz.isAgg107
 z50 := Tryz.sizeOf107
 v50 := Tryz.zeroValue107
 t53 := Tryz.underlying122
 a53 := Tryz.isAgg122
 z53 := Tryz.sizeOf122
 v53 := Tryz.zeroValue122
 t55 := Tryz.underlying124
 a55 := Tryz.isAgg124
 z55 := Tryz.sizeOf124
 v55 := Tryz.zeroValue124
 t66 := Tryz.underlying160
 a66 := Tryz.isAgg160
 z66 := Tryz.sizeOf160
 v66 := Tryz.zeroValue160
 t70 := Tryz.underlying164
 a70 := Tryz.isAgg164
 z70 := Tryz.sizeOf164
 v70 := Tryz.zeroValue164
 t76 := Tryz.underlying177
 a76 := Tryz.isAgg177
 z76 := Tryz.sizeOf177
 v76 := Tryz.zeroValue177
 t77 := Tryz.underlying178
 a77 := Tryz.isAgg178
 z77 := Tryz.sizeOf178
 v77 := Tryz.zeroValue178 }
end Go.Proofs
end

noncomputable section
set_option linter.unusedVariables false
namespace Go.Proofs
open Go.Shelf
def Tryz.laysSrk_ren : Go.Shelf.Ren := ⟨fun | 6 => 33 | 15 => 62 | 14 => 61 | 28 => 86 | 29 => 87 | 20 => 78 | 21 => 79 | 22 => 80 | 23 => 81 | 24 => 82 | 25 => 83 | 26 => 84 | 27 => 85 | 46 => 126 | 47 => 127 | 48 => 128 | 49 => 129 | 50 => 130 | 57 => 150 | n => n, fun | 22 => 36 | 24 => 43 | 25 => 79 | 3 => 3 | 39 => 100 | 0 => 0 | 53 => 122 | 55 => 124 | 4 => 4 | 46 => 116 | 45 => 115 | 50 => 107 | 5 => 5 | 9 => 9 | 66 => 160 | 70 => 164 | 76 => 177 | 77 => 178 | n => n, fun | n => n⟩
theorem Tryz.laysSrk : Go.Proofs.SlLaysF0.n6 Tryz.prog Tryz.laysSrk_ren := {
 mixed := by kernel_rfl
 f6 := ⟨Tryz.f33.name, by decide, Tryz.func33.trans (congrArg some (by kernel_rfl))⟩
 f14 := ⟨Tryz.f61.name, by decide, Tryz.func61.trans (congrArg some (by kernel_rfl))⟩
 f15 := Tryz.func62.trans (congrArg some (by kernel_rfl))
 f20 := ⟨Tryz.f78.name, by decide, Tryz.func78.trans (congrArg some (by kernel_rfl))⟩
 f21 := ⟨Tryz.f79.name, by decide, Tryz.func79.trans (congrArg some (by kernel_rfl))⟩
 f22 := ⟨Tryz.f80.name, by decide, Tryz.func80.trans (congrArg some (by kernel_rfl))⟩
 f23 := ⟨Tryz.f81.name, by decide, Tryz.func81.trans (congrArg some (by kernel_rfl))⟩
 f24 := ⟨Tryz.f82.name, by decide, Tryz.func82.trans (congrArg some (by kernel_rfl))⟩
 f25 := ⟨Tryz.f83.name, by decide, Tryz.func83.trans (congrArg some (by kernel_rfl))⟩
 f26 := ⟨Tryz.f84.name, by decide, Tryz.func84.trans (congrArg some (by kernel_rfl))⟩
 f27 := ⟨Tryz.f85.name, by decide, Tryz.func85.trans (congrArg some (by kernel_rfl))⟩
 f28 := Tryz.func86.trans (congrArg some (by kernel_rfl))
 f29 := Tryz.func87.trans (congrArg some (by kernel_rfl))
 f46 := ⟨Tryz.f126.name, by decide, Tryz.func126.trans (congrArg some (by kernel_rfl))⟩
 f47 := Tryz.func127.trans (congrArg some (by kernel_rfl))
 f48 := Tryz.func128.trans (congrArg some (by kernel_rfl))
 f49 := ⟨Tryz.f129.name, by decide, Tryz.func129.trans (congrArg some (by kernel_rfl))⟩
 f50 := ⟨Tryz.f130.name, by decide, Tryz.func130.trans (congrArg some (by kernel_rfl))⟩
 f57 := ⟨Tryz.f150.name, by decide, Tryz.func150.trans (congrArg some (by kernel_rfl))⟩
 t0 := Tryz.underlying0
 a0 := Tryz.isAgg0
 z0 := Tryz.sizeOf0
 v0 := Tryz.zeroValue0
 t3 := Tryz.underlying3
 a3 := Tryz.isAgg3
 z3 := Tryz.sizeOf3
 v3 := Tryz.zeroValue3
 t4 := Tryz.underlying4
 a4 := Tryz.isAgg4
 z4 := Tryz.sizeOf4
 v4 := Tryz.zeroValue4
 t5 := Tryz.underlying5
 a5 := Tryz.isAgg5
 z5 := Tryz.sizeOf5
 v5 := Tryz.zeroValue5
 t9 := Tryz.underlying9
 a9 := Tryz.isAgg9
 z9 := Tryz.sizeOf9
 v9 := Tryz.zeroValue9
 t22 := Tryz.underlying36
 a22 := Tryz.isAgg36
 z22 := Tryz.sizeOf36
 v22 := Tryz.zeroValue36
 t25 := Tryz.underlying79
 a25 := Tryz.isAgg79
 z25 := Tryz.sizeOf79
 v25 := Tryz.zeroValue79
 t39 := Tryz.underlying100
 a39 := Tryz.isAgg100
 z39 := Tryz.sizeOf100
 v39 := Tryz.zeroValue100
 t45 := Tryz.underlying115
 a45 := Tryz.isAgg115
 z45 := Tryz.sizeOf115
 v45 := Tryz.zeroValue115
 t46 := Tryz.underlying116
 a46 := Tryz.isAgg116
 z46 := Tryz.sizeOf116
 v46 := Tryz.zeroValue116
 t50 := Tryz.underlying107
 a50 := Tryz.isAgg107
 z50 := Tryz.sizeOf107
 v50 := Tryz.zeroValue107
 t53 := Tryz.underlying122
 a53 := Tryz.isAgg122
 z53 := Tryz.sizeOf122
 v53 := Tryz.zeroValue122
 t55 := Tryz.underlying124
 a55 := Tryz.isAgg124
 z55 := Tryz.sizeOf124
 v55 := Tryz.zeroValue124
 t66 := Tryz.underlying160
 a66 := Tryz.isAgg160
 z66 := Tryz.sizeOf160
 v66 := Tryz.zeroValue160
 t70 := Tryz.underlying164
 a70 := Tryz.isAgg164
 z70 := Tryz.sizeOf164
 v70 := Tryz.zeroValue164
 t76 := Tryz.underlying177
 a76 := Tryz.isAgg177
 z76 := Tryz.sizeOf177
 v76 := Tryz.zeroValue177
 t77 := Tryz.underlying178
 a77 := Tryz.isAgg178
 z77 := Tryz.sizeOf178
 v77 := Tryz.zeroValue178 }
end Go.Proofs
end

noncomputable section
set_option linter.unusedVariables false
namespace Go.Proofs
open Go.Shelf
def Tryz.lays190_ren : Go.Shelf.Ren := ⟨fun | 190 => 56 | 125 => 62 | 258 => 74 | 128 => 86 | 129 => 87 | 302 => 112 | 303 => 113 | 304 => 114 | 305 => 115 | 306 => 116 | 307 => 117 | 308 => 118 | 309 => 119 | 310 => 120 | 333 => 144 | 329 => 127 | 330 => 128 | 334 => 145 | 335 => 146 | 336 => 63 | 344 => 164 | n => n, fun | 31 => 50 | 9 => 9 | 3 => 3 | 46 => 100 | 0 => 0 | 51 => 122 | 53 => 124 | 4 => 4 | 183 => 116 | 182 => 115 | 131 => 107 | 5 => 5 | 218 => 160 | 222 => 164 | 228 => 177 | 229 => 178 | n => n, fun | n => n⟩
theorem Tryz.lays190 : Go.Proofs.Lays.n190 Tryz.prog Tryz.lays190_ren := {
 mixed := by kernel_rfl
 f125 := Tryz.func62.trans (congrArg some (by kernel_rfl))
 f128 := Tryz.func86.trans (congrArg some (by kernel_rfl))
 f129 := Tryz.func87.trans (congrArg some (by kernel_rfl))
 f190 := Tryz.func56.trans (congrArg some (by kernel_rfl))
 f258 := Tryz.func74.trans (congrArg some (by kernel_rfl))
 f302 := Tryz.func112.trans (congrArg some (by kernel_rfl))
 f303 := Tryz.func113.trans (congrArg some (by kernel_rfl))
 f304 := Tryz.func114.trans (congrArg some (by kernel_rfl))
 f305 := Tryz.func115.trans (congrArg some (by kernel_rfl))
 f306 := Tryz.func116.trans (congrArg some (by kernel_rfl))
 f307 := Tryz.func117.trans (congrArg some (by kernel_rfl))
 f308 := Tryz.func118.trans (congrArg some (by kernel_rfl))
 f309 := Tryz.func119.trans (congrArg some (by kernel_rfl))
 f310 := Tryz.func120.trans (congrArg some (by kernel_rfl))
 f329 := Tryz.func127.trans (congrArg some (by kernel_rfl))
 f330 := Tryz.func128.trans (congrArg some (by kernel_rfl))
 f333 := Tryz.func144.trans (congrArg some (by kernel_rfl))
 f334 := Tryz.func145.trans (congrArg some (by kernel_rfl))
 f335 := Tryz.func146.trans (congrArg some (by kernel_rfl))
 f336 := Tryz.func63.trans (congrArg some (by kernel_rfl))
 f344 := Tryz.func164.trans (congrArg some (by kernel_rfl))
 t0 := Tryz.underlying0
 a0 := Tryz.isAgg0
 z0 := Tryz.sizeOf0
 v0 := Tryz.zeroValue0
 t3 := Tryz.underlying3
 a3 := Tryz.isAgg3
 z3 := Tryz.sizeOf3
 v3 := Tryz.zeroValue3
 t4 := Tryz.underlying4
 a4 := Tryz.isAgg4
 z4 := Tryz.sizeOf4
 v4 := Tryz.zeroValue4
 t5 := Tryz.underlying5
 a5 := Tryz.isAgg5
 z5 := Tryz.sizeOf5
 v5 := Tryz.zeroValue5
 t9 := Tryz.underlying9
 a9 := Tryz.isAgg9
 z9 := Tryz.sizeOf9
 v9 := Tryz.zeroValue9
 t31 := Tryz.underlying50
 a31 := Tryz.isAgg50
 z31 := Tryz.sizeOf50
 v31 := Tryz.zeroValue50
 t46 := Tryz.underlying100
 a46 := Tryz.isAgg100
 z46 := Tryz.sizeOf100
 v46 := Tryz.zeroValue100
 t51 := Tryz.underlying122
 a51 := Tryz.isAgg122
 z51 := Tryz.sizeOf122
 v51 := Tryz.zeroValue122
 t53 := Tryz.underlying124
 a53 := Tryz.isAgg124
 z53 := Tryz.sizeOf124
 v53 := Tryz.zeroValue124
 t131 := Tryz.underlying107
 a131 := Tryz.isAgg107
 z131 := Tryz.sizeOf107
 v131 := Tryz.zeroValue107
 t182 := Tryz.underlying115
 a182 := Tryz.isAgg115
 z182 := Tryz.sizeOf115
 v182 := Tryz.zeroValue115
 t183 := Tryz.underlying116
 a183 := Tryz.isAgg116
 z183 := Tryz.sizeOf116
 v183 := Tryz.zeroValue116
 t218 := Tryz.underlying160
 a218 := Tryz.isAgg160
 z218 := Tryz.sizeOf160
 v218 := Tryz.zeroValue160
 t222 := Tryz.underlying164
 a222 := Tryz.isAgg164
 z222 := Tryz.sizeOf164
 v222 := Tryz.zeroValue164
 t228 := Tryz.underlying177
 a228 := Tryz.isAgg177
 z228 := Tryz.sizeOf177
 v228 := Tryz.zeroValue177
 t229 := Tryz.underlying178
 a229 := Tryz.isAgg178
 z229 := Tryz.sizeOf178
 v229 := Tryz.zeroValue178 }
end Go.Proofs
end

noncomputable section
set_option linter.unusedVariables false
set_option linter.unusedSimpArgs false
namespace Sx
open Go
inductive V where
 | mk (k n : Int) (s : Str) (l : List V)
namespace V
def k : V → Int | .mk k _ _ _ => k
def n : V → Int | .mk _ n _ _ => n
def s : V → Str | .mk _ _ s _ => s
def l : V → List V | .mk _ _ _ l => l
end V
mutual
def vsize : V → Nat
 | .mk _ _ _ l => vsizes l + 1
def vsizes : List V → Nat
 | [] => 0
 | v :: l => vsize v + vsizes l
end
theorem Qey : ∀ {l : List V} {v : V}, v ∈ l → vsize v ≤ vsizes l
 | w :: l, v, h => by
  simp only [vsizes]
  rcases List.mem_cons.1 h with rfl | h
  ·omega
  ·have := Qey h; omega
theorem Qhx {v w : V} (h : w ∈ v.l) : vsize w < vsize v := by
 obtain ⟨k, n, s, l⟩ := v
 have := Qey (show w ∈ l from h)
 simp only [vsize]; omega
/-- by how great a value is -/
theorem V.rec_ {P : V → Prop} (h : ∀ v, (∀ w ∈ v.l, P w) → P v) (v : V) : P v := by
 have : ∀ n v, vsize v ≤ n → P v := by
  intro n
  induction n with
  | zero => intro v hv; obtain ⟨k, n, s, l⟩ := v; simp [vsize] at hv
  | succ n ih => intro v hv; exact h v fun w hw => ih w (by have := Qhx hw; omega)
 exact this _ v (Nat.le_refl _)
mutual
def dep : V → Nat
 | .mk _ _ _ l => deps l + 1
def deps : List V → Nat
 | [] => 0
 | v :: l => max (dep v) (deps l)
end
theorem Qkg (v : V) : dep v = deps v.l + 1 := by obtain ⟨k, n, s, l⟩ := v; rfl
theorem Qd2 : ∀ (a b : List V), deps (a ++ b) = max (deps a) (deps b)
 | [], b => by simp [deps]
 | v :: a, b => by simp only [List.cons_append, deps, Qd2 a b]; omega
theorem Qin {l : List V} {i : Nat} (h : i < l.length) : deps (l.take (i + 1)) = max (deps (l.take i)) (dep l[i]) := by
 rw [List.take_add_one, List.getElem?_eq_getElem h, Option.toList_some, Qd2]; simp [deps]
theorem Qim : ∀ {l : List V} {v : V}, v ∈ l → dep v ≤ deps l
 | w :: l, v, h => by
  simp only [deps]
  rcases List.mem_cons.1 h with rfl | h
  ·omega
  ·have := Qim h; omega
def lowC (c : UInt8) : Bool := decide (97 ≤ c.toNat) && decide (c.toNat ≤ 122)
def nameC (c : UInt8) : Bool := lowC c || (decide (65 ≤ c.toNat) && decide (c.toNat ≤ 90)) || (decide (48 ≤ c.toNat) && decide (c.toNat ≤ 57)) || decide (c.toNat = 95)
def nameS (s : Str) : Bool := !s.isEmpty && decide (s.length ≤ 32) && lowC (s.headD 0) && s.all nameC
def digC (c : UInt8) : Bool := decide (48 ≤ c.toNat) && decide (c.toNat ≤ 57)
def cutD : Str → Option (Str × Str)
 | [] => none
 | c :: t => if c = 46 then some ([], t) else (cutD t).map fun p => (c :: p.1, p.2)
theorem Qgv : ∀ (a b : Str), (46 : UInt8) ∉ a → cutD (a ++ 46 :: b) = some (a, b)
 | [], b, _ => by simp [cutD]
 | c :: a, b, h => by
  have h1 : c ≠ 46 := fun e => h (by rw [e]; exact List.mem_cons_self ..)
  simp only [List.cons_append, cutD, if_neg h1, Qgv a b fun hh => h (List.mem_cons_of_mem _ hh)]; rfl
theorem Qgx : ∀ (a : Str), (46 : UInt8) ∉ a → cutD a = none
 | [], _ => rfl
 | c :: a, h => by
  have h1 : c ≠ 46 := fun e => h (by rw [e]; exact List.mem_cons_self ..)
  simp only [cutD, if_neg h1, Qgx a fun hh => h (List.mem_cons_of_mem _ hh)]; rfl
theorem Qgw : ∀ (s : Str), (46 : UInt8) ∈ s → ∃ a b, s = a ++ 46 :: b ∧ 46 ∉ a
 | c :: s, h => by
  by_cases hc : c = 46
  ·exact ⟨[], s, by rw [hc]; rfl, by simp⟩
  ·obtain ⟨a, b, h1, h2⟩ := Qgw s (by simpa [Ne.symm hc] using h)
   exact ⟨c :: a, b, by rw [h1]; rfl, by simp [h2, Ne.symm hc]⟩
def trueS : Str := [116, 114, 117, 101]
def falseS : Str := [102, 97, 108, 115, 101]
def namesS (s : Str) : Bool := if s = trueS ∨ s = falseS then false else match cutD s with
 | some (a, b) => nameS a && nameS b
 | none => nameS s
def unmin (s : Str) : Str := if s.head? = some 45 then s.tail else s
def numS (s : Str) : Bool := !(unmin s).isEmpty && (unmin s).all digC && !(decide ((unmin s).head? = some 48) && decide (s ≠ [48]))
def digits (s : Str) : Nat := (unmin s).length
def okN (k n : Int) (s : Str) (m : Nat) : Bool :=
 if k = 1 then (n == 0 || n == 1) && s.isEmpty && decide (m = 0)
 else if k = 2 then s.isEmpty && decide (m = 0)
 else if k = 3 then numS s && n == 0 && decide (m = 0)
 else if k = 4 then n == 0 && decide (m = 0)
 else if k = 5 then n == 0 && s.isEmpty && decide (m ≠ 1)
 else if k = 6 then n == 0 && namesS s
 else false
def fitN (k : Int) (s : Str) (m : Nat) : Bool :=
 if k = 3 then decide (digits s ≤ 200)
 else if k = 4 then decide (s.length ≤ 4096)
 else if k = 5 then decide (m ≤ 16)
 else if k = 6 then decide (m ≤ 8)
 else true
mutual
def formV : V → Bool
 | .mk k n s l => okN k n s l.length && formVs l
def formVs : List V → Bool
 | [] => true
 | v :: l => formV v && formVs l
end
mutual
def fitsV : V → Bool
 | .mk k n s l => fitN k s l.length && fitsVs l
def fitsVs : List V → Bool
 | [] => true
 | v :: l => fitsV v && fitsVs l
end
theorem Qfa (v : V) : formV v = (okN v.k v.n v.s v.l.length && formVs v.l) := by obtain ⟨k, n, s, l⟩ := v; rfl
theorem QhG (v : V) : fitsV v = (fitN v.k v.s v.l.length && fitsVs v.l) := by obtain ⟨k, n, s, l⟩ := v; rfl
theorem Qei : ∀ (a b : List V), formVs (a ++ b) = (formVs a && formVs b)
 | [], b => by simp [formVs]
 | v :: a, b => by simp only [List.cons_append, formVs, Qei a b, Bool.and_assoc]
theorem Qeh : ∀ (a b : List V), fitsVs (a ++ b) = (fitsVs a && fitsVs b)
 | [], b => by simp [fitsVs]
 | v :: a, b => by simp only [List.cons_append, fitsVs, Qeh a b, Bool.and_assoc]
theorem Qhu {l : List V} {i : Nat} (h : i < l.length) : formVs (l.take (i + 1)) = (formVs (l.take i) && formV l[i]) := by
 rw [List.take_add_one, List.getElem?_eq_getElem h, Option.toList_some, Qei]; simp [formVs]
theorem Qht {l : List V} {i : Nat} (h : i < l.length) : fitsVs (l.take (i + 1)) = (fitsVs (l.take i) && fitsV l[i]) := by
 rw [List.take_add_one, List.getElem?_eq_getElem h, Option.toList_some, Qeh]; simp [fitsVs]
theorem QeS : ∀ {l : List V} {v : V}, v ∈ l → formV v = false → formVs l = false
 | w :: l, v, h, hv => by
  simp only [formVs]
  rcases List.mem_cons.1 h with rfl | h
  ·rw [hv]; rfl
  ·rw [QeS h hv, Bool.and_false]
theorem QeI : ∀ {l : List V} {v : V}, v ∈ l → formVs l = true → formV v = true := fun h hl => by
 cases hv : formV _ with
 | true => rfl
 | false => rw [QeS h hv] at hl; cases hl
def checkV (v : V) : Int := if dep v > 64 then 65 else if formV v = false then 4 else if fitsV v = false then 40 else 0
def mayV (v : V) : Bool := decide (checkV v = 0)
theorem QhO (v : V) : mayV v = true ↔ dep v ≤ 64 ∧ formV v = true ∧ fitsV v = true := by
 unfold mayV checkV
 rw [decide_eq_true_eq]
 by_cases h1 : dep v > 64
 ·simp [h1]; omega
 ·rw [if_neg h1]
  cases hf : formV v <;> cases hg : fitsV v <;> simp <;> omega
def sgn (a b : Int) : Int := if a < b then -1 else if b < a then 1 else 0
def vcmpS : Str → Str → Int
 | [], [] => 0
 | [], _ :: _ => -1
 | _ :: _, [] => 1
 | a :: s, b :: t => if a = b then vcmpS s t else sgn a.toNat b.toNat
/-- of whole numbers without their signs -/
def cmpD (a b : Str) : Int := if a.length = b.length then vcmpS a b else sgn a.length b.length
def isMin (s : Str) : Bool := decide (s.head? = some 45)
def cmpB (a b : Str) : Int := if isMin a then (if isMin b then cmpD b.tail a.tail else -1) else if isMin b then 1 else cmpD a b
mutual
def cmpV : V → V → Int
 | .mk k n s l, .mk k' n' s' l' =>
  if k ≠ k' then sgn k k'
  else if k = 3 then cmpB s s'
  else if k = 4 then vcmpS s s'
  else if k = 5 then cmpVs l l'
  else if k = 6 then (if vcmpS s s' ≠ 0 then vcmpS s s' else cmpVs l l')
  else sgn n n'
def cmpVs : List V → List V → Int
 | [], [] => 0
 | [], _ :: _ => -1
 | _ :: _, [] => 1
 | v :: l, w :: m => if cmpV v w ≠ 0 then cmpV v w else cmpVs l m
end
def lastB (a b : Bool) : Int := if a = b then 0 else if a then -1 else 1
def mayR (l : List V) : Bool := l.all mayV
def cmpR (l m : List V) : Int := if mayR l = true ∧ mayR m = true then cmpVs l m else lastB (mayR l) (mayR m)
mutual
def sameV : V → V → Bool
 | .mk k n s l, .mk k' n' s' l' => k == k' && n == n' && decide (s = s') && sameVs l l'
def sameVs : List V → List V → Bool
 | [], [] => true
 | v :: l, w :: m => sameV v w && sameVs l m
 | _, _ => false
end
theorem Qha (h : ∀ v w : V, sameV v w = true → v = w) : ∀ {l m : List V}, sameVs l m = true → l = m
 | [], [], _ => rfl
 | [], _ :: _, h' => by simp [sameVs] at h'
 | _ :: _, [], h' => by simp [sameVs] at h'
 | v :: l, w :: m, h' => by
  simp only [sameVs, Bool.and_eq_true] at h'
  rw [h v w h'.1, Qha h h'.2]
theorem Qjw {v w : V} (h : sameV v w = true) : v = w := by
 have key : ∀ v : V, ∀ w, sameV v w = true → v = w := by
  refine V.rec_ (P := fun v => ∀ w, sameV v w = true → v = w) fun v ih w h => ?_
  obtain ⟨k, n, s, l⟩ := v
  obtain ⟨k', n', s', l'⟩ := w
  simp only [sameV, Bool.and_eq_true, beq_iff_eq, decide_eq_true_eq] at h
  obtain ⟨⟨⟨rfl, rfl⟩, rfl⟩, h⟩ := h
  have : ∀ (l m : List V), (∀ v ∈ l, ∀ w, sameV v w = true → v = w) → sameVs l m = true → l = m := by
   intro l
   induction l with
   | nil => intro m _ h; cases m with
    | nil => rfl
    | cons _ _ => simp [sameVs] at h
   | cons v l ihl =>
    intro m hh h
    cases m with
    | nil => simp [sameVs] at h
    | cons w m =>
     simp only [sameVs, Bool.and_eq_true] at h
     rw [hh v (List.mem_cons_self ..) w h.1, ihl m (fun v hv => hh v (List.mem_cons_of_mem _ hv)) h.2]
  rw [this l l' ih h]
 exact key v w h
mutual
theorem Qh8 : ∀ v : V, sameV v v = true
 | .mk k n s l => by simp [sameV, Qd8 l]
theorem Qd8 : ∀ l : List V, sameVs l l = true
 | [] => rfl
 | v :: l => by simp [sameVs, Qh8 v, Qd8 l]
end
theorem Qgg {l m : List V} : sameVs l m = true ↔ l = m := ⟨Qha fun _ _ => Qjw, fun h => h ▸ Qd8 l⟩
end Sx
end

noncomputable section
set_option linter.unusedVariables false
set_option linter.unusedSimpArgs false
set_option maxRecDepth 10000
namespace Sx
section
open Go Go.Proofs
theorem Qdz {α β : Type} (f : α → List β) (z : Nat) (hz : ∀ x, (f x).length = z) : ∀ (l : List α) (i : Nat) (x : α), l[i]? = some x → ∀ (j : Nat) (v : β), (f x)[j]? = some v → (l.flatMap f)[i * z + j]? = some v
 | [], i, x, h, j, v, hv => by simp at h
 | y :: l, 0, x, h, j, v, hv => by
  simp at h; subst h
  rw [List.flatMap_cons, Nat.zero_mul, Nat.zero_add, List.getElem?_append_left (List.getElem?_eq_some_iff.1 hv).1]; exact hv
 | y :: l, i + 1, x, h, j, v, hv => by
  have := Qdz f z hz l i x (by simpa using h) j v hv
  rw [List.flatMap_cons, List.getElem?_append_right (by rw [hz, Nat.add_mul]; omega), hz]
  rw [show (i + 1) * z + j - z = i * z + j by rw [Nat.add_mul]; omega]; exact this
abbrev TV := Qa
theorem TV.c_len (x : TV) : (Qa.c x).length = 4 := rfl
mutual
def VIs (H : Heap) : V → TV → Prop
 | .mk k n s l, x => x.Kind = k ∧ x.N = n ∧ x.S = s ∧ ∃ xs : List TV, rdsl H x.L (xs.flatMap Qa.c) ∧ x.L.len = xs.length ∧ VsAre H l xs
def VsAre (H : Heap) : List V → List TV → Prop
 | [], [] => True
 | v :: l, x :: xs => VIs H v x ∧ VsAre H l xs
 | [], _ :: _ => False
 | _ :: _, [] => False
end
/-- a row of values -/
def VRow (H : Heap) (t : Sl) (l : List V) : Prop := ∃ xs : List TV, rdsl H t (xs.flatMap Qa.c) ∧ t.len = xs.length ∧ VsAre H l xs
theorem QcL {H : Heap} {v : V} {x : TV} : VIs H v x ↔ x.Kind = v.k ∧ x.N = v.n ∧ x.S = v.s ∧ VRow H x.L v.l := by obtain ⟨k, n, s, l⟩ := v; rfl
theorem VsAre.len {H : Heap} : ∀ {l : List V} {xs : List TV}, VsAre H l xs → l.length = xs.length
 | [], [], _ => rfl
 | v :: l, x :: xs, h => by have := VsAre.len h.2; simp [this]
theorem VsAre.get {H : Heap} : ∀ {l : List V} {xs : List TV}, VsAre H l xs → ∀ (i : Nat) (v : V) (x : TV), l[i]? = some v → xs[i]? = some x → VIs H v x
 | [], [], _, i, v, x, h, _ => by simp at h
 | v :: l, x :: xs, h, 0, v', x', h1, h2 => by simp at h1 h2; subst h1; subst h2; exact h.1
 | v :: l, x :: xs, h, i + 1, v', x', h1, h2 => VsAre.get h.2 i v' x' (by simpa using h1) (by simpa using h2)
theorem VsAre.of {H : Heap} : ∀ {l : List V} {xs : List TV}, l.length = xs.length → (∀ (i : Nat) (v : V) (x : TV), l[i]? = some v → xs[i]? = some x → VIs H v x) → VsAre H l xs
 | [], [], _, _ => trivial
 | v :: l, x :: xs, h, hg => ⟨hg 0 v x rfl rfl, VsAre.of (by simpa using h) fun i v' x' h1 h2 => hg (i + 1) v' x' (by simpa using h1) (by simpa using h2)⟩
mutual
theorem VIs.le {A B : Heap} (h : A.le B) : ∀ {v : V} {x : TV}, VIs A v x → VIs B v x
 | .mk k n s l, x, ⟨h1, h2, h3, xs, h4, h5, h6⟩ => ⟨h1, h2, h3, xs, QcX h h4, h5, VsAre.le h h6⟩
theorem VsAre.le {A B : Heap} (h : A.le B) : ∀ {l : List V} {xs : List TV}, VsAre A l xs → VsAre B l xs
 | [], [], _ => trivial
 | v :: l, x :: xs, ⟨h1, h2⟩ => ⟨VIs.le h h1, VsAre.le h h2⟩
end
theorem VRow.le {A B : Heap} {t : Sl} {l : List V} (h : VRow A t l) (hle : A.le B) : VRow B t l := by
 obtain ⟨xs, h1, h2, h3⟩ := h
 exact ⟨xs, QcX hle h1, h2, h3.le hle⟩
theorem VRow.len {H : Heap} {t : Sl} {l : List V} (h : VRow H t l) : t.len = l.length := by
 obtain ⟨xs, h1, h2, h3⟩ := h
 rw [h2, h3.len]
theorem VIs.kind {H : Heap} {v : V} {x : TV} (h : VIs H v x) : x.Kind = v.k := (QcL.1 h).1
theorem VIs.num {H : Heap} {v : V} {x : TV} (h : VIs H v x) : x.N = v.n := (QcL.1 h).2.1
theorem VIs.txt {H : Heap} {v : V} {x : TV} (h : VIs H v x) : x.S = v.s := (QcL.1 h).2.2.1
theorem VIs.row {H : Heap} {v : V} {x : TV} (h : VIs H v x) : VRow H x.L v.l := (QcL.1 h).2.2.2
/-- one of a row's values -/
theorem VRow.ld {A H : Heap} {t : Sl} {l : List V} (h : VRow A t l) (hle : A.le H) {i : Nat} {x : Int} {K : TV → Prop} (hx : x = i) (hi : i < l.length) (k : ∀ y, VIs A l[i] y → K y) : ixa t x fun p => ldT H Qa.c (p.1, p.2 + x.toNat * 4) K := by
 have hl := h.len
 obtain ⟨xs, h1, h2, h3⟩ := h
 have hi2 : i < xs.length := by omega
 have hg := List.getElem?_eq_getElem hi2
 subst hx
 refine Qiw (QcX hle h1) (by omega) (by omega) (fun e => ?_) fun p _ hp => ⟨xs[i], ?_, k _ (h3.get i _ _ (List.getElem?_eq_getElem hi) hg)⟩
 ·have := Qdz Qa.c 4 TV.c_len xs i _ hg 0 _ rfl
  rw [e] at this; simp at this
 ·refine QdQ fun j v hj => ?_
  have := QfE hp _ _ (Qdz Qa.c 4 TV.c_len xs i _ hg j v hj)
  rw [show p.2 + (i : Int).toNat * 4 + j = p.2 + (i * 4 + j) by omega]; exact this
mutual
def VB : V → Prop
 | .mk k n s l => (0 ≤ k ∧ k ≤ 255) ∧ (-9223372036854775808 ≤ n ∧ n ≤ 9223372036854775807) ∧ s.length ≤ 140737488355328 ∧ l.length ≤ 140737488355328 ∧ VBs l
def VBs : List V → Prop
 | [] => True
 | v :: l => VB v ∧ VBs l
end
theorem VBs.mem : ∀ {l : List V}, VBs l → ∀ {v}, v ∈ l → VB v
 | w :: l, h, v, hv => by
  rcases List.mem_cons.1 hv with rfl | hv
  ·exact h.1
  ·exact VBs.mem h.2 hv
theorem VB.k {v : V} (h : VB v) : 0 ≤ v.k ∧ v.k ≤ 255 := by obtain ⟨k, n, s, l⟩ := v; exact h.1
theorem VB.n {v : V} (h : VB v) : -9223372036854775808 ≤ v.n ∧ v.n ≤ 9223372036854775807 := by obtain ⟨k, n, s, l⟩ := v; exact h.2.1
theorem VB.s {v : V} (h : VB v) : v.s.length ≤ 140737488355328 := by obtain ⟨k, n, s, l⟩ := v; exact h.2.2.1
theorem VB.l {v : V} (h : VB v) : v.l.length ≤ 140737488355328 := by obtain ⟨k, n, s, l⟩ := v; exact h.2.2.2.1
theorem VB.ls {v : V} (h : VB v) : VBs v.l := by obtain ⟨k, n, s, l⟩ := v; exact h.2.2.2.2
theorem VB.at {v : V} (h : VB v) {i : Nat} (hi : i < v.l.length) : VB v.l[i] := h.ls.mem (List.getElem_mem hi)
section
variable {B : Heap} {b : Nat} {m : Bool} {x : TV}
theorem QhR (h : B b = some (m, .row (Qa.c x))) : rd B (b, 0) = some (.int .u8 x.Kind) ∧ rd B (b, 1) = some (.int .i64 x.N) ∧ rd B (b, 2) = some (sv x.S) ∧ rd B (b, 3) = some (slv x.L) :=
 ⟨by rw [Qn h]; rfl, by rw [Qn h]; rfl, by rw [Qn h]; rfl, by rw [Qn h]; rfl⟩
theorem bxK {K : Int → Prop} (h : B b = some (m, .row (Qa.c x))) (k : K x.Kind) : ldI B .u8 ((b, 0).1, (b, 0).2 + 0) K := ⟨_, (QhR h).1, k⟩
theorem bxN {K : Int → Prop} (h : B b = some (m, .row (Qa.c x))) (k : K x.N) : ldI B .i64 ((b, 0).1, (b, 0).2 + 1) K := ⟨_, (QhR h).2.1, k⟩
theorem bxS {K : Str → Prop} (h : B b = some (m, .row (Qa.c x))) (k : K x.S) : ldS B ((b, 0).1, (b, 0).2 + 2) K := ⟨_, (QhR h).2.2.1, k⟩
theorem bxL {K : Sl → Prop} (h : B b = some (m, .row (Qa.c x))) (k : K x.L) : ldL B ((b, 0).1, (b, 0).2 + 3) K := ⟨_, (QhR h).2.2.2, k⟩
theorem bxV {K : TV → Prop} (h : B b = some (m, .row (Qa.c x))) (k : K x) : ldT B Qa.c (b, 0) K := ⟨x, Qb2 h fun j v hj => by simpa using hj, k⟩
end
section
variable {C : Ctx} {H : Heap}
theorem Qf4 {v : V} {x : TV} {H : Heap} {m : Nat} {K : Int → Heap → Prop} (hv : VIs H v x) (hB : VB v) (hm : m ≤ 1000) (k : ∀ r : Nat, r ≤ m + 1 → r ≤ dep v → (r = dep v ∨ m + 1 ≤ r) → K r H) : QU C x m K H := by
 refine V.rec_ (P := fun v => ∀ {x H} {m : Nat} {K : Int → Heap → Prop}, VIs H v x → VB v → m ≤ 1000 → (∀ r : Nat, r ≤ m + 1 → r ≤ dep v → (r = dep v ∨ m + 1 ≤ r) → K r H) → QU C x m K H) (fun v ih => ?_) v hv hB hm k
 clear hv hB hm k m
 intro x H m K hv hB hm k
 apply QU.gh
 apply QfY
 unfold QdX
 intro b1 n1
 have hr := hv.row
 have hl := hr.len
 have hbl := hB.l
 have hde := Qkg v
 have hb1 : (H.put b1 (.row (Qa.c x))) b1 = some (true, .row (Qa.c x)) := Heap.put_same ..
 refine ⟨fun y H' => H.le H' ∧ ∃ r : Nat, y = (r : Int) ∧ r ≤ m ∧ r ≤ deps v.l ∧ (r = deps v.l ∨ m ≤ r), ?_, ?_⟩
 rotate_left
 ·rintro y H' ⟨hle, r, rfl, h0, h1, h2⟩
  rw [Qaq (by omega) (by omega)]
  have := k (r + 1) (by omega) (by omega) (by omega)
  exact ⟨H, Gh.le hle, by simpa using this⟩
 refine bxL hb1 ?_
 refine ⟨fun y H' => ∃ i r : Nat, y = ((r : Int), (i : Int)) ∧ i ≤ v.l.length ∧ H.le H' ∧ r ≤ m ∧ r ≤ deps (v.l.take i) ∧ (r = deps (v.l.take i) ∨ m ≤ r), fun y _ => v.l.length - y.2.toNat, ⟨0, 0, rfl, Nat.zero_le _, Heap.le_put n1, Nat.zero_le _, Nat.zero_le _, .inl (by simp [deps])⟩, ?_⟩
 rintro _ H' ⟨i, r, rfl, hi, hle, hr0, hr1, hr2⟩
 have hdti : deps (v.l.take i) ≤ deps v.l := by
  have h1 := Qd2 (v.l.take i) (v.l.drop i)
  rw [List.take_append_drop] at h1; omega
 dsimp only
 rw [hl]
 refine ift.of (fun h => ?_) (fun h => ?_)
 ·have hlt : i < v.l.length := by have := of_decide_eq_true h; omega
  have hmem := List.getElem_mem hlt
  have hdl := Qim hmem
  refine hr.ld hle rfl hlt fun y hy => ?_
  intro b20 n20
  refine ⟨_, Heap.put_same .., by simp [Qa.c], ?_⟩
  rw [Heap.put_put]
  have esp : splice (Qa.c Qa.zero) (b20, 0).2 (Qa.c y) = Qa.c y := rfl
  rw [esp]
  have hle2 := hle.trans (Heap.le_put n20 (g := .row (Qa.c y)) (m := true))
  refine ift.of (fun h => ?_) (fun h => ?_)
  ·have hge : m ≤ r := by have := of_decide_eq_true h; omega
   exact ⟨hle2, r, rfl, by omega, by omega, .inr hge⟩
  ·have hltm : r < m := by have := of_decide_eq_false h; omega
   refine bxV (Heap.put_same ..) ?_
   have em : w .i64 ((m : Int) - 1) = ((m - 1 : Nat) : Int) := by rw [Qaq (by omega) (by omega)]; omega
   rw [em]
   refine ih _ hmem (hy.le hle2) (hB.at hlt) (by omega) fun q hq0 hq1 hq2 => ?_
   have hdt := Qin hlt
   rw [Qaq (by omega) (by omega)]
   refine ⟨⟨i + 1, max q r, ?_, by omega, hle2, by omega, by omega, ?_⟩, by first | omega | (dsimp only; omega)⟩
   ·refine Prod.ext ?_ rfl
    dsimp only
    split <;> omega
   ·rw [hdt]; omega
 ·have hie : i = v.l.length := by have := of_decide_eq_false h; omega
  subst hie
  rw [List.take_length] at hr1 hr2
  exact ⟨hle, r, rfl, hr0, hr1, hr2⟩
end
end
section
open Go Go.Proofs
theorem u8eq (c : UInt8) (n : Nat) (hn : n < 256) : ((c.toNat : Int) == (n : Int)) = decide (c = UInt8.ofNat n) := by
 rw [Bool.eq_iff_iff]; simp only [decide_eq_true_eq, beq_iff_eq]
 constructor
 ·intro h; exact UInt8.toNat_inj.1 (by rw [UInt8.toNat_ofNat']; omega)
 ·rintro rfl; rw [UInt8.toNat_ofNat']; omega
theorem e48 (c : UInt8) : ((c.toNat : Int) == 48) = decide (c = 48) := u8eq c 48 (by omega)
theorem Qje {α : Type} {p : α → Bool} {s : List α} {i : Nat} (h : i < s.length) : (s.take (i + 1)).all p = ((s.take i).all p && p s[i]) := by
 rw [List.take_add_one, List.getElem?_eq_getElem h, Option.toList_some, List.all_append]; simp
theorem Qkf {α : Type} {p : α → Bool} {s : List α} {x : α} (h : x ∈ s) (hp : p x = false) : s.all p = false := by
 rw [List.all_eq_false]; exact ⟨x, h, by simp [hp]⟩
theorem getE {s : Str} {i : Nat} (h : i < s.length) : s[((i : Nat) : Int).toNat]? = some s[i] := by simp [h]
theorem getL {s : Str} (h : 0 < s.length) {x : Int} (hx : x = (s.length : Int) - 1) : s[x.toNat]? = some (s.getLast (List.ne_nil_of_length_pos h)) := by
 subst hx
 have : ((s.length : Int) - 1).toNat = s.length - 1 := by omega
 rw [this, List.getElem?_eq_getElem (by omega), List.getLast_eq_getElem]
section
variable {C : Ctx} {H : Heap}
theorem Qex {s : Str} {K : Bool → Heap → Prop} (hs : s.length ≤ 140737488355328) (k : K (nameS s) H) : Qa9 C s K H := by
 apply Qgs
 unfold Qeu
 refine ⟨fun b H' => H = H' ∧ b = (s.isEmpty || decide (s.length > 32) || decide ((s.headD 0).toNat < 97)), ?_, ?_⟩
 ·refine ift.of (fun h => ⟨rfl, ?_⟩) (fun h => ?_)
  ·simp only [Bool.or_eq_true, decide_eq_true_eq, beq_iff_eq] at h
   rcases h with rfl | h
   ·rfl
   ·have : decide (s.length > 32) = true := by rw [decide_eq_true_eq]; omega
    rw [this]; simp
  ·cases s with
   | nil => simp at h
   | cons c t =>
    refine ⟨c, by omega, rfl, rfl, ?_⟩
    simp only [Bool.or_eq_false_iff, decide_eq_false_iff_not] at h
    have : decide ((c :: t).length > 32) = false := by rw [decide_eq_false_iff_not]; omega
    rw [this]
    simp only [List.isEmpty_cons, Bool.false_or, List.headD_cons]
    exact (decide_eq_decide.2 (by omega) : decide ((c.toNat : Int) < 97) = decide (c.toNat < 97))
 rintro b _ ⟨rfl, rfl⟩
 refine ⟨fun b H' => H = H' ∧ b = (s.isEmpty || decide (s.length > 32) || !lowC (s.headD 0)), ?_, ?_⟩
 ·refine ift.of (fun h => ⟨rfl, ?_⟩) (fun h => ?_)
  ·simp only [Bool.or_eq_true, decide_eq_true_eq] at h
   rcases h with (h | h) | h
   ·rw [h]; rfl
   ·have : decide (s.length > 32) = true := by rw [decide_eq_true_eq]; omega
    rw [this]; simp
   ·have : lowC (s.headD 0) = false := by unfold lowC; rw [decide_eq_false (by omega)]; rfl
    rw [this]; simp
  ·simp only [Bool.or_eq_false_iff, decide_eq_false_iff_not] at h
   cases s with
   | nil => simp at h
   | cons c t =>
    refine ⟨c, by omega, rfl, rfl, ?_⟩
    have : decide ((c :: t).length > 32) = false := by rw [decide_eq_false_iff_not]; omega
    rw [this]
    simp only [List.isEmpty_cons, Bool.false_or, List.headD_cons] at h ⊢
    unfold lowC
    rw [decide_eq_true (by omega : 97 ≤ c.toNat), Bool.true_and, ← decide_not, decide_eq_decide]; omega
 rintro b _ ⟨rfl, rfl⟩
 refine ift.of (fun h => ?_) (fun h => ?_)
 ·have : nameS s = false := by
   unfold nameS
   simp only [Bool.or_eq_true, decide_eq_true_eq, Bool.not_eq_true'] at h
   rcases h with (h | h) | h
   ·rw [h]; rfl
   ·have : decide (s.length ≤ 32) = false := by rw [decide_eq_false_iff_not]; omega
    rw [this]; simp
   ·rw [h]; simp
  rw [this] at k; exact k
 have hn : nameS s = s.all nameC := by
  unfold nameS
  simp only [Bool.or_eq_false_iff, decide_eq_false_iff_not, Bool.not_eq_false'] at h
  have : decide (s.length ≤ 32) = true := by rw [decide_eq_true_eq]; omega
  rw [h.1.1, this, h.2]; simp
 refine ⟨fun x H' => ∃ i : Nat, x = (i : Int) ∧ i ≤ s.length ∧ H = H' ∧ (s.take i).all nameC = true, fun x _ => s.length - x.toNat, ⟨0, rfl, Nat.zero_le _, rfl, rfl⟩, ?_⟩
 rintro x _ ⟨i, rfl, hi, rfl, ha⟩
 refine ift.of (fun h => ?_) (fun h => ?_)
 ·have hlt : i < s.length := by have := of_decide_eq_true h; omega
  refine ⟨s[i], by omega, getE hlt, ?_⟩
  dsimp only
  have hm := List.getElem_mem hlt
  have hat := Qje (p := nameC) hlt
  generalize s[i] = c at *
  have e : (!(((((decide ((c.toNat : Int) ≥ 97)) && (decide ((c.toNat : Int) ≤ 122))) || ((decide ((c.toNat : Int) ≥ 65)) && (decide ((c.toNat : Int) ≤ 90)))) || ((decide ((c.toNat : Int) ≥ 48)) && (decide ((c.toNat : Int) ≤ 57)))) || ((c.toNat : Int) == 95))) = !nameC c := by
   unfold nameC lowC
   have h0 : decide ((c.toNat : Int) ≥ 97) = decide (97 ≤ c.toNat) := by rw [decide_eq_decide]; omega
   have h01 : decide ((c.toNat : Int) ≤ 122) = decide (c.toNat ≤ 122) := by rw [decide_eq_decide]; omega
   have h1 : decide ((c.toNat : Int) ≥ 65) = decide (65 ≤ c.toNat) := by rw [decide_eq_decide]; omega
   have h2 : decide ((c.toNat : Int) ≤ 90) = decide (c.toNat ≤ 90) := by rw [decide_eq_decide]; omega
   have h3 : decide ((c.toNat : Int) ≥ 48) = decide (48 ≤ c.toNat) := by rw [decide_eq_decide]; omega
   have h4 : decide ((c.toNat : Int) ≤ 57) = decide (c.toNat ≤ 57) := by rw [decide_eq_decide]; omega
   have h5 : ((c.toNat : Int) == 95) = decide (c.toNat = 95) := by
    rw [Bool.eq_iff_iff]; simp only [beq_iff_eq, decide_eq_true_eq]; omega
   rw [h0, h01, h1, h2, h3, h4, h5]
  rw [e]
  refine ift.of (fun h => ?_) (fun h => ?_)
  ·rw [hn, Qkf hm (by simpa using h)] at k; exact k
  ·rw [Qaq (by omega) (by omega)]
   refine ⟨⟨i + 1, by omega, by omega, rfl, ?_⟩, by first | omega | (dsimp only; omega)⟩
   rw [hat, ha]; simpa using h
 ·have hie : i = s.length := by have := of_decide_eq_false h; omega
  rw [hie, List.take_length] at ha
  rw [hn, ha] at k; exact k
end
end
section
open Go Go.Proofs
theorem Qga (c : UInt8) : ∀ s : Str, (Lib.indexByte s c = -1 ∧ c ∉ s) ∨ ∃ k : Nat, Lib.indexByte s c = (k : Int) ∧ ∃ a b, s = a ++ c :: b ∧ a.length = k ∧ c ∉ a
 | [] => .inl ⟨rfl, by simp⟩
 | b :: s => by
  unfold Lib.indexByte
  by_cases h : b = c
  ·subst h
   exact .inr ⟨0, by simp, [], s, rfl, rfl, by simp⟩
  ·have hb : (b == c) = false := by simpa using h
   rw [hb]
   rcases Qga c s with ⟨h1, h2⟩ | ⟨k, h1, a, d, h2, h3, h4⟩
   ·left
    rw [h1]
    refine ⟨by simp, by simp [h2, Ne.symm h]⟩
   ·right
    refine ⟨k + 1, ?_, b :: a, d, by rw [h2]; rfl, by simp [h3], by simp [h4, Ne.symm h]⟩
    rw [h1]
    have : ((k : Int) == -1) = false := by rw [beq_eq_false_iff_ne]; omega
    simp [this]
def setD (cs : List Value) (l : Str) : List Value := l.foldl (fun cs c => cs.set c.toNat (.bool true)) cs
def setD0 : List Value := List.replicate 256 (.bool false)
def digS : Str := [48, 49, 50, 51, 52, 53, 54, 55, 56, 57]
theorem QhW (l : Str) : ∀ cs, (setD cs l).length = cs.length := by
 induction l with
 | nil => intro cs; rfl
 | cons c l ih => intro cs; simp only [setD, List.foldl_cons] at ih ⊢; rw [ih]; simp
theorem QiW (l : Str) (c : UInt8) (cs : List Value) : setD cs (l ++ [c]) = (setD cs l).set c.toNat (.bool true) := by simp [setD]
theorem QjS (l : Str) : ∀ cs : List Value, cs.all Value.oneCell' = true → (setD cs l).all Value.oneCell' = true := by
 induction l with
 | nil => intro cs h; exact h
 | cons c l ih =>
  intro cs h
  simp only [setD, List.foldl_cons] at ih ⊢
  refine ih _ ?_
  rw [List.all_eq_true] at h ⊢
  intro x hx
  rcases List.mem_or_eq_of_mem_set hx with hx | rfl
  ·exact h x hx
  ·rfl
theorem Qjy : ∀ n : Nat, n < 256 → (match (setD setD0 digS)[n]? with | some (.bool b) => b == (decide (48 ≤ n) && decide (n ≤ 57)) | _ => false) = true := by decide +kernel
theorem Qjx (c : UInt8) : (setD setD0 digS)[c.toNat]? = some (.bool (digC c)) := by
 have h := Qjy c.toNat c.toBitVec.isLt
 unfold digC
 generalize (setD setD0 digS)[c.toNat]? = o at *
 cases o with
 | none => simp at h
 | some v => cases v <;> simp at h ⊢; exact h
section
variable {C : Ctx} {H : Heap}
theorem QeT {s p : Str} {K : Bool → Heap → Prop} (k : K (p.isPrefixOf s) H) : Qt C s p K H := by
 apply Qbd
 unfold Q7
 refine ⟨fun b H' => H = H' ∧ b = p.isPrefixOf s, ?_, ?_⟩
 ·refine ift.of (fun h => ?_) (fun h => ⟨rfl, ?_⟩)
  ·have hl : p.length ≤ s.length := by have := of_decide_eq_true h; omega
   refine ⟨by omega, by omega, by omega, s.take p.length, by simp, rfl, ?_⟩
   rw [Bool.eq_iff_iff, List.isPrefixOf_iff_prefix, beq_iff_eq, List.prefix_iff_eq_take]
   exact ⟨fun h => h.symm, fun h => h.symm⟩
  ·have hl := of_decide_eq_false h
   cases hh : p.isPrefixOf s with
   | false => rfl
   | true =>
    have := (List.isPrefixOf_iff_prefix.1 hh).length_le
    omega
 ·rintro b _ ⟨rfl, rfl⟩
  exact k
theorem QgM {s p : Str} {K : Str → Heap → Prop} (k : K (if p.isPrefixOf s then s.drop p.length else s) H) : QaT C s p K H := by
 apply Qdf
 unfold Qbw
 apply Qbb
 unfold QY
 refine QeT ?_
 refine ift.of (fun h => ?_) (fun h => ?_)
 ·rw [if_pos h] at k
  have := (List.isPrefixOf_iff_prefix.1 h).length_le
  exact ⟨by omega, by omega, by omega, _, by simp, k⟩
 ·rw [if_neg (by rw [h]; decide)] at k; exact k
theorem Qil {s : Str} {K : Str → Str → Bool → Heap → Prop} (hs : s.length ≤ 140737488355328) (k : match cutD s with | some (a, b) => K a b true H | none => K s [] false H) : QcO C s [46] K H := by
 apply QfV
 unfold QdU
 apply QbT
 unfold QaJ
 have key : ∀ {K : Int → Heap → Prop}, K (Lib.indexByte s 46) H → QS C s [46] K H := by
  intro K k
  apply Qbx
  unfold Qap
  refine ift.of (fun h => ?_) (fun h => ?_)
  ·have hs : [46] = s := by simpa using h
   subst hs
   exact k
  ·refine QA rfl ⟨46, by omega, rfl, ?_⟩
   apply Qbe
   unfold Q8
   exact k
 refine key ?_
 rcases Qga 46 s with ⟨h1, h2⟩ | ⟨i, h1, a, b, h2, h3, h4⟩
 ·rw [h1]
  rw [Qgx s h2] at k
  exact Qi rfl k
 ·rw [h1]
  subst h2
  rw [Qgv a b h4] at k
  subst h3
  simp only [List.length_append, List.length_cons] at hs
  refine QA (by rw [decide_eq_true_eq]; omega) ?_
  refine ⟨by omega, by omega, by simp; omega, a, by simp, ?_⟩
  have e1 : (([46] : Str).length : Int) = 1 := rfl
  rw [e1, Qaq (by omega) (by omega)]
  refine ⟨by omega, by simp; omega, by omega, b, ?_, k⟩
  have e2 : ((a.length : Int) + 1).toNat = a.length + 1 := by omega
  rw [List.take_of_length_le (by omega), e2, List.drop_append]
  simp
/-- the set of digits -/
def DSet (H : Heap) (b : Nat) : Prop := H b = some (true, .row (setD setD0 digS))
theorem Qfs {b : Nat} {c : UInt8} {K : Bool → Heap → Prop} (h : DSet H b) (k : K (digC c) H) : QE C (some (b, 0)) (c.toNat : Int) K H := by
 apply QbL
 unfold Qaz
 refine ⟨(b, 0), rfl, by omega, by have := c.toBitVec.isLt; have : c.toNat < 256 := this; omega, digC c, ?_, k⟩
 rw [Qn h]
 have := Qjx c
 simpa using this
theorem QjF {b : Nat} {s : Str} {K : Str → Heap → Prop} (hs : s.length ≤ 140737488355328) (h : DSet H b) (k : ∀ t, t.length ≤ s.length → t.all digC = s.all digC → K t H) : Qab C s (some (b, 0)) K H := by
 apply Qck
 unfold QaY
 refine ⟨fun t H' => H = H' ∧ t.length ≤ s.length ∧ t.all digC = s.all digC, ?_, ?_⟩
 rotate_left
 ·rintro t _ ⟨rfl, h1, h2⟩
  exact k t h1 h2
 refine ⟨fun t H' => H = H' ∧ t.length ≤ s.length ∧ t.all digC = s.all digC, fun t _ => t.length, ⟨rfl, Nat.le_refl _, rfl⟩, ?_⟩
 rintro t _ ⟨rfl, h1, h2⟩
 refine ift.of (fun hh => ?_) (fun hh => ⟨rfl, h1, h2⟩)
 have hl : 0 < t.length := by have := of_decide_eq_true hh; omega
 have hne := List.ne_nil_of_length_pos hl
 have hd : t.dropLast ++ [t.getLast hne] = t := List.dropLast_concat_getLast hne
 rw [Qaq (by omega) (by omega)]
 refine ⟨t.getLast hne, by omega, getL hl rfl, ?_⟩
 refine Qfs h ?_
 refine ift.of (fun hc => ⟨rfl, h1, h2⟩) (fun hc => ?_)
 have e1 : (t.take ((t.length : Int) - 1).toNat).drop (0 : Int).toNat = t.dropLast := by
  have : ((t.length : Int) - 1).toNat = t.length - 1 := by omega
  rw [this, List.dropLast_eq_take]; simp
 refine ⟨by omega, by omega, by omega, _, e1.symm, ?_⟩
 have hdl := List.length_dropLast (xs := t)
 refine ⟨⟨rfl, by omega, ?_⟩, by dsimp only; omega⟩
 rw [← h2]
 conv => rhs; rw [← hd]
 rw [List.all_append]
 simp at hc
 simp [hc]
theorem QjE {b : Nat} {s : Str} {K : Str → Heap → Prop} (hs : s.length ≤ 140737488355328) (h : DSet H b) (k : ∀ t, t.all digC = s.all digC → (t = [] ∨ t.all digC = false) → K t H) : Qag C s (some (b, 0)) K H := by
 apply Qct
 unfold Qba
 refine ⟨fun t H' => H = H' ∧ t.all digC = s.all digC ∧ (t = [] ∨ t.all digC = false), ?_, ?_⟩
 rotate_left
 ·rintro t _ ⟨rfl, h1, h2⟩
  exact k t h1 h2
 refine ⟨fun t H' => H = H' ∧ t.length ≤ s.length ∧ t.all digC = s.all digC, fun t _ => t.length, ⟨rfl, Nat.le_refl _, rfl⟩, ?_⟩
 rintro t _ ⟨rfl, h1, h2⟩
 cases t with
 | nil => exact Qi rfl ⟨rfl, h2, .inl rfl⟩
 | cons c t =>
  refine QA (by rw [decide_eq_true_eq]; simp only [List.length_cons]; omega) ?_
  refine ⟨c, by omega, rfl, ?_⟩
  refine Qfs h ?_
  refine ift.of (fun hc => ⟨rfl, h2, .inr ?_⟩) (fun hc => ?_)
  ·simp at hc; simp [hc]
  ·refine ⟨by omega, by simp only [List.length_cons]; omega, by omega, t, ?_, ⟨rfl, by simp only [List.length_cons] at h1; omega, ?_⟩, by simp⟩
   ·rw [List.take_of_length_le (by omega)]; rfl
   ·rw [← h2]; simp at hc; simp [hc]
theorem QgB {K : List Value → Bool → Heap → Prop} (k : K (setD setD0 digS) true H) : Qs C digS K H := by
 apply Qs.gh
 apply QcM
 unfold Qbk
 intro b n
 refine ⟨fun x H' => ∃ i : Nat, x = (i : Int) ∧ i ≤ 10 ∧ H' = H.put b (.row (setD setD0 (digS.take i))), fun x _ => 10 - x.toNat, ⟨0, rfl, by omega, rfl⟩, ?_⟩
 rintro x _ ⟨i, rfl, hi, rfl⟩
 have hlen : (setD setD0 (digS.take i)).length = 256 := by rw [QhW]; simp [setD0]
 refine ift.of (fun h => ?_) (fun h => ?_)
 ·have hlt : i < digS.length := by have := of_decide_eq_true h; omega
  have hlt' : i < 10 := hlt
  refine ⟨digS[i], by omega, getE hlt, ?_⟩
  have hm : ∀ c ∈ digS, c.toNat < 128 := by decide
  have h128 := hm _ (List.getElem_mem hlt)
  have htk : digS.take (i + 1) = digS.take i ++ [digS[i]] := by rw [List.take_add_one, List.getElem?_eq_getElem hlt]; rfl
  generalize digS[i] = c at *
  refine Qi (by rw [decide_eq_false_iff_not]; omega) ?_
  refine ⟨by omega, by omega, _, Heap.put_same .., by rw [hlen]; simp; omega, ?_⟩
  rw [Qaq (by omega) (by omega), Heap.put_put]
  refine ⟨⟨i + 1, by omega, by omega, ?_⟩, by first | omega | (dsimp only; omega)⟩
  rw [htk, QiW]
  have : (b, 0).2 + (c.toNat : Int).toNat * 1 = c.toNat := by simp
  rw [this]
 ·have hi10 : i = 10 := by have := of_decide_eq_false h; have : digS.length = 10 := rfl; omega
  subst hi10
  have e : digS.take 10 = digS := rfl
  rw [e] at hlen ⊢
  have hr : ∀ {B : Heap}, B b = some (true, .row (setD setD0 digS)) → rds B (b, 0) (setD setD0 digS) := fun h => Qb2 h fun j v hj => by simpa using hj
  refine ⟨_, hlen, hr (Heap.put_same ..), hlen, QjS _ _ (by decide +kernel), _, Heap.put_same .., by simp, ?_⟩
  have esp : splice (setD setD0 digS) (b, 0).2 (setD setD0 digS) = setD setD0 digS := by
   unfold splice; simp
  rw [esp, Heap.put_put]
  exact ⟨_, hlen, hr (Heap.put_same ..), H, Gh.le (Heap.le_put n), k⟩
theorem Qib {s : Str} {K : Str → Heap → Prop} (hs : s.length ≤ 140737488355328) (k : ∀ t, (t = [] ↔ s.all digC = true) → K t H) : Q9 C s digS K H := by
 apply Q9.gh
 apply Qff
 unfold Qdp
 refine ift.of (fun h => ?_) (fun h => ?_)
 ·have : s = [] := by simpa [digS] using h
  subst this
  exact ⟨H, Gh.refl _, k [] (by simp)⟩
 refine ⟨fun b H' => H = H' ∧ b = false, Qi rfl ⟨rfl, rfl⟩, ?_⟩
 rintro _ _ ⟨rfl, rfl⟩
 refine Qi rfl ?_
 refine QgB ?_
 intro b n
 have hlen : (setD setD0 digS).length = 256 := by rw [QhW]; simp [setD0]
 refine ⟨hlen, QjS _ _ (by decide +kernel), _, Heap.put_same .., by rw [hlen]; simp, ?_⟩
 have esp : splice (List.replicate 256 (.bool false : Value)) (b, 0).2 (setD setD0 digS) = setD setD0 digS := by
  unfold splice; simp [hlen]
 rw [esp, Heap.put_put]
 refine QA rfl ?_
 refine QjF hs (Heap.put_same ..) fun t ht1 ht2 => ?_
 refine QjE (by omega) (Heap.put_same ..) fun u hu1 hu2 => ?_
 refine ⟨H, Gh.le (Heap.le_put n), k u ?_⟩
 rw [← ht2, ← hu1]
 constructor
 ·rintro rfl; rfl
 ·intro h
  rcases hu2 with h2 | h2
  ·exact h2
  ·rw [h] at h2; cases h2
theorem QfN {s : Str} {K : Int → Bool → Heap → Prop} (hs : s.length ≤ 140737488355328) (k : K (if numS s then (digits s : Int) else 0) (numS s) H) : Qcn C s K H := by
 apply Qfm
 unfold Qdw
 refine QgM ?_
 have e : (if ([45] : Str).isPrefixOf s then s.drop ([45] : Str).length else s) = unmin s := by
  unfold unmin
  cases s with
  | nil => rfl
  | cons c t =>
   by_cases hc : c = 45
   ·subst hc; simp [List.isPrefixOf]
   ·simp [List.isPrefixOf, hc, Ne.symm hc]
 rw [e]
 have hul : (unmin s).length ≤ s.length := by unfold unmin; split <;> simp
 have hdg : digits s = (unmin s).length := rfl
 have hnu : numS s = (!(unmin s).isEmpty && (unmin s).all digC && !(decide ((unmin s).head? = some 48) && decide (s ≠ [48]))) := rfl
 rw [hdg, hnu] at k
 clear hdg hnu e
 generalize unmin s = d at *
 refine ⟨fun b H' => H = H' ∧ b = !(!d.isEmpty && d.all digC), ?_, ?_⟩
 ·refine ift.of (fun h => ⟨rfl, ?_⟩) (fun h => ?_)
  ·have : d = [] := by simpa using h
   subst this; rfl
  ·have hne : d ≠ [] := by simpa using h
   refine Qib (by omega) fun t ht => ⟨rfl, ?_⟩
   have he : d.isEmpty = false := by cases d with
    | nil => exact absurd rfl hne
    | cons _ _ => rfl
   rw [he]
   cases hd : d.all digC with
   | true => rw [ht.2 hd]; rfl
   | false =>
    have : t ≠ [] := fun e => by rw [ht.1 e] at hd; cases hd
    simpa using this
 rintro b _ ⟨rfl, rfl⟩
 refine ⟨fun b H' => H = H' ∧ b = !(!d.isEmpty && d.all digC && !(decide (d.head? = some 48) && decide (s ≠ [48]))), ?_, ?_⟩
 ·refine ift.of (fun h => ⟨rfl, ?_⟩) (fun h => ?_)
  ·simp only [Bool.not_eq_true'] at h
   rw [h]; rfl
  ·simp only [Bool.not_eq_false'] at h
   rw [h]
   cases d with
   | nil => simp at h
   | cons c t =>
    refine ⟨c, by omega, rfl, rfl, ?_⟩
    rw [e48]
    simp only [List.head?_cons, Option.some.injEq, Bool.true_and, Bool.not_not]
    congr 1
    rw [decide_not]; congr 1
    rw [Bool.eq_iff_iff]; simp
 rintro b _ ⟨rfl, rfl⟩
 refine ift.of (fun h => ?_) (fun h => ?_)
 ·simp only [Bool.not_eq_true'] at h
  rw [h] at k; exact k
 ·simp only [Bool.not_eq_false'] at h
  rw [h] at k; exact k
end
end
section
open Go Go.Proofs
section
variable {C : Ctx} {H : Heap}
theorem sEmpty {s : Str} : (s == ([] : Str)) = s.isEmpty := by cases s <;> rfl
theorem lenZ {l : List V} {n : Nat} (h : n = l.length) (m : Nat) : ((n : Int) == (m : Int)) = decide (l.length = m) := by
 rw [Bool.eq_iff_iff]; simp only [beq_iff_eq, decide_eq_true_eq]; omega
theorem QiF {k n : Int} {s : Str} {m : Nat} (h : okN k n s m = true) (hk : k = 3) : numS s = true := by
 unfold okN at h
 rw [if_neg (by omega), if_neg (by omega), if_pos hk] at h
 simp only [Bool.and_eq_true] at h
 exact h.1.1
end
end
section
open Go Go.Proofs
theorem QiC (s : Str) : namesS s = (match cutD s with | some (a, b) => nameS a && nameS b | none => nameS s && !decide (s = trueS) && !decide (s = falseS)) := by
 unfold namesS
 by_cases ht : s = trueS
 ·subst ht; rfl
 by_cases hf : s = falseS
 ·subst hf; rfl
 rw [if_neg (fun h => h.elim ht hf)]
 cases hc : cutD s with
 | none => simp [ht, hf]
 | some p => rfl
section
variable {C : Ctx} {H : Heap}
theorem Qj2 {v : V} {x : TV} {H : Heap} {K : Bool → Bool → Heap → Prop} (hv : VIs H v x) (hB : VB v) (k : ∀ g, (formV v = true → g = fitsV v) → K (formV v) g H) : Qv C x K H := by
 refine V.rec_ (P := fun v => ∀ {x H} {K : Bool → Bool → Heap → Prop}, VIs H v x → VB v → (∀ g, (formV v = true → g = fitsV v) → K (formV v) g H) → Qv C x K H) (fun v ih => ?_) v hv hB k
 clear hv hB k
 intro x H K hv hB k
 apply Qv.gh
 apply Qef
 unfold Qci
 intro b1 n1
 have hr := hv.row
 have hl := hr.len
 have hbl := hB.l
 have hbs := hB.s
 have hk := hv.kind
 have hn := hv.num
 have ht := hv.txt
 have hb1 : (H.put b1 (.row (Qa.c x))) b1 = some (true, .row (Qa.c x)) := Heap.put_same ..
 have hle1 := Heap.le_put n1 (g := .row (Qa.c x)) (m := true)
 generalize H.put b1 (.row (Qa.c x)) = H1 at *
 refine bxN hb1 ?_
 refine ⟨fun b H' => H1 = H', ?_, ?_⟩
 ·exact ift.of (fun _ => bxS hb1 rfl) (fun _ => rfl)
 rintro _ _ rfl
 refine ⟨fun b H' => H1 = H', ?_, ?_⟩
 ·exact ift.of (fun _ => bxL hb1 rfl) (fun _ => rfl)
 rintro _ _ rfl
 refine ⟨fun b H' => H1 = H' ∧ b.1 = okN v.k v.n v.s v.l.length ∧ (b.1 = true → b.2 = fitN v.k v.s v.l.length), ?_, ?_⟩
 rotate_left
 ·rintro ⟨o, g⟩ _ ⟨rfl, ho, hg⟩
  dsimp only at ho hg ⊢
  subst ho
  refine bxL hb1 ?_
  refine ⟨fun y H' => ∃ i : Nat, y.2.2 = (i : Int) ∧ i ≤ v.l.length ∧ H.le H' ∧ y.1 = (okN v.k v.n v.s v.l.length && formVs (v.l.take i)) ∧ (y.1 = true → y.2.1 = (fitN v.k v.s v.l.length && fitsVs (v.l.take i))), fun y _ => v.l.length - y.2.2.toNat, ⟨0, rfl, Nat.zero_le _, hle1, by simp [formVs], fun h => by simp [fitsVs, hg h]⟩, ?_⟩
  rintro ⟨f, g', y⟩ H2 ⟨i, hy, hi, hle, h1, h2⟩
  dsimp only at hy h1 h2
  subst hy
  dsimp only
  rw [hl]
  refine ift.of (fun h => ?_) (fun h => ?_)
  ·have hlt : i < v.l.length := by have := of_decide_eq_true h; omega
   have hmem := List.getElem_mem hlt
   refine hr.ld hle rfl hlt fun z hz => ?_
   intro b20 n20
   refine ⟨_, Heap.put_same .., by simp [Qa.c], ?_⟩
   rw [Heap.put_put]
   have esp : splice (Qa.c Qa.zero) (b20, 0).2 (Qa.c z) = Qa.c z := rfl
   rw [esp]
   have hle2 := hle.trans (Heap.le_put n20 (g := .row (Qa.c z)) (m := true))
   refine bxV (Heap.put_same ..) ?_
   refine ih _ hmem (hz.le hle2) (hB.at hlt) fun q hq => ?_
   rw [Qaq (by omega) (by omega)]
   refine ⟨⟨i + 1, by omega, by omega, hle2, ?_, fun hh => ?_⟩, by first | omega | (dsimp only; omega)⟩
   ·rw [h1, Qhu hlt, Bool.and_assoc]
   ·rw [Bool.and_eq_true] at hh
    rw [h2 hh.1, Qht hlt, hq hh.2, Bool.and_assoc]
  ·have hie : i = v.l.length := by have := of_decide_eq_false h; omega
   subst hie
   rw [List.take_length] at h1 h2
   rw [← Qfa] at h1
   rw [← QhG] at h2
   refine ⟨H, Gh.le hle, ?_⟩
   rw [h1] at h2 ⊢
   exact k g' h2
 refine bxK hb1 ?_
 rw [hk]
 refine ift.of (fun h => ?_) (fun h => ?_)
 ·have h : v.k = 1 := by simpa using h
  have eo : okN v.k v.n v.s v.l.length = ((v.n == 0 || v.n == 1) && v.s.isEmpty && decide (v.l.length = 0)) := by rw [h]; rfl
  have ef : fitN v.k v.s v.l.length = true := by rw [h]; rfl
  rw [eo, ef]
  refine bxN hb1 ?_
  refine ⟨fun b H' => H1 = H' ∧ b = (v.n == 0 || v.n == 1), ?_, ?_⟩
  ·rw [hn]
   refine ift.of (fun h => ⟨rfl, by rw [h]; rfl⟩) (fun h => ?_)
   refine bxN hb1 ⟨rfl, ?_⟩
   rw [h, hn]; rfl
  rintro _ _ ⟨rfl, rfl⟩
  refine ⟨fun b H' => H1 = H' ∧ b = ((v.n == 0 || v.n == 1) && v.s.isEmpty), ?_, ?_⟩
  ·refine ift.of (fun h => ?_) (fun h => ⟨rfl, by rw [h]; rfl⟩)
   refine bxS hb1 ⟨rfl, ?_⟩
   rw [h, ht, sEmpty]; rfl
  rintro _ _ ⟨rfl, rfl⟩
  refine ⟨fun b H' => H1 = H' ∧ b = ((v.n == 0 || v.n == 1) && v.s.isEmpty && decide (v.l.length = 0)), ?_, ?_⟩
  ·refine ift.of (fun h => ?_) (fun h => ⟨rfl, by rw [h]; rfl⟩)
   refine bxL hb1 ⟨rfl, ?_⟩
   rw [h]; exact lenZ hl 0
  rintro _ _ ⟨rfl, rfl⟩
  exact ⟨rfl, rfl, fun _ => rfl⟩
 have g1 : v.k ≠ 1 := by simpa using h
 refine ift.of (fun h => ?_) (fun h => ?_)
 ·have h : v.k = 2 := by simpa using h
  have eo : okN v.k v.n v.s v.l.length = (v.s.isEmpty && decide (v.l.length = 0)) := by rw [h]; rfl
  have ef : fitN v.k v.s v.l.length = true := by rw [h]; rfl
  rw [eo, ef]
  refine bxS hb1 ?_
  refine ⟨fun b H' => H1 = H' ∧ b = (v.s.isEmpty && decide (v.l.length = 0)), ?_, ?_⟩
  ·rw [ht, sEmpty]
   refine ift.of (fun h => ?_) (fun h => ⟨rfl, by rw [h]; rfl⟩)
   refine bxL hb1 ⟨rfl, ?_⟩
   rw [h]; exact lenZ hl 0
  rintro _ _ ⟨rfl, rfl⟩
  exact ⟨rfl, rfl, fun _ => rfl⟩
 have g2 : v.k ≠ 2 := by simpa using h
 refine ift.of (fun h => ?_) (fun h => ?_)
 ·have h : v.k = 3 := by simpa using h
  have eo : okN v.k v.n v.s v.l.length = (numS v.s && v.n == 0 && decide (v.l.length = 0)) := by rw [h]; rfl
  have ef : fitN v.k v.s v.l.length = decide (digits v.s ≤ 200) := by rw [h]; rfl
  rw [eo, ef]
  refine bxS hb1 ?_
  rw [ht]
  refine QfN hbs ?_
  refine ⟨fun b H' => H1 = H' ∧ b = (numS v.s && v.n == 0), ?_, ?_⟩
  ·refine ift.of (fun h => ?_) (fun h => ⟨rfl, by rw [h]; rfl⟩)
   refine bxN hb1 ⟨rfl, ?_⟩
   rw [h, hn]; rfl
  rintro _ _ ⟨rfl, rfl⟩
  refine ⟨fun b H' => H1 = H' ∧ b = (numS v.s && v.n == 0 && decide (v.l.length = 0)), ?_, ?_⟩
  ·refine ift.of (fun h => ?_) (fun h => ⟨rfl, by rw [h]; rfl⟩)
   refine bxL hb1 ⟨rfl, ?_⟩
   rw [h]; exact lenZ hl 0
  rintro _ _ ⟨rfl, rfl⟩
  refine ⟨rfl, rfl, fun hh => ?_⟩
  dsimp only at hh ⊢
  simp only [Bool.and_eq_true] at hh
  rw [hh.1.1, if_pos rfl, decide_eq_decide]; omega
 have g3 : v.k ≠ 3 := by simpa using h
 refine ift.of (fun h => ?_) (fun h => ?_)
 ·have h : v.k = 4 := by simpa using h
  have eo : okN v.k v.n v.s v.l.length = (v.n == 0 && decide (v.l.length = 0)) := by rw [h]; rfl
  have ef : fitN v.k v.s v.l.length = decide (v.s.length ≤ 4096) := by rw [h]; rfl
  rw [eo, ef]
  have ed : decide ((v.s.length : Int) ≤ 4096) = decide (v.s.length ≤ 4096) := by rw [decide_eq_decide]; omega
  refine ⟨fun b H' => H1 = H' ∧ b = ((v.n == 0 && decide (v.l.length = 0)), decide (v.s.length ≤ 4096)), ?_, ?_⟩
  ·refine ⟨H1, Heap.le.refl _, bxN hb1 (bxS hb1 ?_)⟩
   rw [hn, ht, ed]
   refine ift.of (fun h => ?_) (fun h => ⟨rfl, by rw [h]; rfl⟩)
   refine bxL hb1 ⟨rfl, ?_⟩
   rw [h, show ((x.L.len : Int) == 0) = decide (v.l.length = 0) from lenZ hl 0]; rfl
  rintro _ _ ⟨rfl, rfl⟩
  exact ⟨rfl, rfl, fun _ => rfl⟩
 have g4 : v.k ≠ 4 := by simpa using h
 refine ift.of (fun h => ?_) (fun h => ?_)
 ·have h : v.k = 5 := by simpa using h
  have eo : okN v.k v.n v.s v.l.length = (v.n == 0 && v.s.isEmpty && decide (v.l.length ≠ 1)) := by rw [h]; rfl
  have ef : fitN v.k v.s v.l.length = decide (v.l.length ≤ 16) := by rw [h]; rfl
  rw [eo, ef]
  have ed : decide ((x.L.len : Int) ≤ 16) = decide (v.l.length ≤ 16) := by rw [decide_eq_decide]; omega
  refine ⟨fun b H' => H1 = H' ∧ b = ((v.n == 0 && v.s.isEmpty && decide (v.l.length ≠ 1)), decide (v.l.length ≤ 16)), ?_, ?_⟩
  ·refine ⟨H1, Heap.le.refl _, bxN hb1 (bxL hb1 ?_)⟩
   rw [hn, ed]
   refine ift.of (fun h => ?_) (fun h => ⟨rfl, by rw [h]; rfl⟩)
   refine bxS hb1 ?_
   rw [ht, sEmpty]
   refine ift.of (fun h2 => ?_) (fun h2 => ⟨rfl, by rw [h2]; simp⟩)
   refine bxL hb1 ⟨rfl, ?_⟩
   rw [h, h2, bne, show ((x.L.len : Int) == 1) = decide (v.l.length = 1) from lenZ hl 1, decide_not]; rfl
  rintro _ _ ⟨rfl, rfl⟩
  exact ⟨rfl, rfl, fun _ => rfl⟩
 have g5 : v.k ≠ 5 := by simpa using h
 refine ift.of (fun h => ?_) (fun h => ?_)
 ·have h : v.k = 6 := by simpa using h
  have eo : okN v.k v.n v.s v.l.length = (v.n == 0 && namesS v.s) := by rw [h]; rfl
  have ef : fitN v.k v.s v.l.length = decide (v.l.length ≤ 8) := by rw [h]; rfl
  rw [eo, ef]
  have ed : decide ((x.L.len : Int) ≤ 8) = decide (v.l.length ≤ 8) := by rw [decide_eq_decide]; omega
  refine bxS hb1 ?_
  rw [ht]
  refine Qil hbs ?_
  have key : ∀ (a b : Str) (two : Bool), a.length ≤ 140737488355328 → b.length ≤ 140737488355328 → namesS v.s = (if two then nameS a && nameS b else nameS a && !decide (v.s = trueS) && !decide (v.s = falseS)) →
   jn (α := Bool × Bool) (fun x118 H119 => H1 = H119 ∧ x118.1 = (v.n == 0 && namesS v.s) ∧ (x118.1 = true → x118.2 = decide (v.l.length ≤ 8)))
    (fun J117 => dr H1 fun Hs121 =>
    ldI Hs121 .i64 ((b1, 0).1, (b1, 0).2 + 1) fun x123 =>
    ldL Hs121 ((b1, 0).1, (b1, 0).2 + 3) fun x125 =>
    ift ((x123 : Int) == 0)
    (Qa9 C a (fun r129 H130 =>
    Heap.le Hs121 H130 ∧
    ift r129
    (ift two
    (Qa9 C b (fun r134 H135 =>
    Heap.le Hs121 H135 ∧
    ift r134
    (J117 (true, (decide (((Sl.len x125 : Int) : Int) ≤ 8))) H135)
    (ift (!two)
    (ldS Hs121 ((b1, 0).1, (b1, 0).2 + 2) fun x138 =>
    ift (!(x138 == ([116, 114, 117, 101] : Str)))
    (ldS Hs121 ((b1, 0).1, (b1, 0).2 + 2) fun x141 =>
    J117 ((!(x141 == ([102, 97, 108, 115, 101] : Str))), (decide (((Sl.len x125 : Int) : Int) ≤ 8))) H135)
    (J117 (false, (decide (((Sl.len x125 : Int) : Int) ≤ 8))) H135))
    (J117 (false, (decide (((Sl.len x125 : Int) : Int) ≤ 8))) H135))) H130)
    (ift (!two)
    (ldS Hs121 ((b1, 0).1, (b1, 0).2 + 2) fun x144 =>
    ift (!(x144 == ([116, 114, 117, 101] : Str)))
    (ldS Hs121 ((b1, 0).1, (b1, 0).2 + 2) fun x147 =>
    J117 ((!(x147 == ([102, 97, 108, 115, 101] : Str))), (decide (((Sl.len x125 : Int) : Int) ≤ 8))) H130)
    (J117 (false, (decide (((Sl.len x125 : Int) : Int) ≤ 8))) H130))
    (J117 (false, (decide (((Sl.len x125 : Int) : Int) ≤ 8))) H130)))
    (J117 (false, (decide (((Sl.len x125 : Int) : Int) ≤ 8))) H130)) H1)
    (J117 (false, (decide (((Sl.len x125 : Int) : Int) ≤ 8))) H1)) := by
   intro a b two ha hb hns
   refine ⟨fun y H' => H1 = H' ∧ y = ((v.n == 0 && namesS v.s), decide (v.l.length ≤ 8)), ?_, ?_⟩
   ·refine ⟨H1, Heap.le.refl _, bxN hb1 (bxL hb1 ?_)⟩
    rw [hn, ed]
    refine ift.of (fun h => ?_) (fun h => ⟨rfl, by rw [h]; rfl⟩)
    refine Qex ha ⟨Heap.le.refl _, ?_⟩
    rw [h, hns]
    refine ift.of (fun h2 => ?_) (fun h2 => ⟨rfl, by rw [h2]; cases two <;> rfl⟩)
    rw [h2]
    have eq : ∀ t : Str, (v.s == t) = decide (v.s = t) := fun t => by rw [Bool.eq_iff_iff]; simp
    cases two with
    | true =>
     refine QA rfl ?_
     refine Qex hb ⟨Heap.le.refl _, ?_⟩
     exact ift.of (fun h3 => ⟨rfl, by rw [h3]; rfl⟩) (fun h3 => Qi rfl ⟨rfl, by rw [h3]; rfl⟩)
    | false =>
     refine Qi rfl (QA rfl ?_)
     refine bxS hb1 ?_
     rw [ht, show (v.s == ([116, 114, 117, 101] : Str)) = decide (v.s = trueS) from eq _]
     refine ift.of (fun h3 => ?_) (fun h3 => ⟨rfl, ?_⟩)
     ·refine bxS hb1 ⟨rfl, ?_⟩
      rw [ht, show (v.s == ([102, 97, 108, 115, 101] : Str)) = decide (v.s = falseS) from eq _, h3]; rfl
     ·rw [h3]; rfl
   ·rintro _ _ ⟨rfl, rfl⟩
    exact ⟨rfl, rfl, fun _ => rfl⟩
  have hc := QiC v.s
  cases hcd : cutD v.s with
  | none =>
   rw [hcd] at hc
   exact key _ _ _ hbs (by simp) hc
  | some p =>
   obtain ⟨a, b⟩ := p
   rw [hcd] at hc
   have hlen : a.length ≤ v.s.length ∧ b.length ≤ v.s.length := by
    by_cases hm : (46 : UInt8) ∈ v.s
    ·obtain ⟨a', b', e1, e2⟩ := Qgw _ hm
     have := Qgv a' b' e2
     rw [← e1, hcd] at this
     injection this with this; injection this with h1 h2
     subst h1; subst h2
     rw [e1]; simp; omega
    ·rw [Qgx _ hm] at hcd; cases hcd
   exact key _ _ _ (by omega) (by omega) hc
 have g6 : v.k ≠ 6 := by simpa using h
 have eo : okN v.k v.n v.s v.l.length = false := by unfold okN; rw [if_neg g1, if_neg g2, if_neg g3, if_neg g4, if_neg g5, if_neg g6]
 rw [eo]
 exact ⟨rfl, rfl, fun hh => by cases hh⟩
theorem Qcs {v : V} {x : TV} {H : Heap} {K : Int → Heap → Prop} (hv : VIs H v x) (hB : VB v) (k : K (checkV v) H) : QT C x K H := by
 apply QT.gh
 apply QfX
 unfold QdW
 intro b1 n1
 have hb1 : (H.put b1 (.row (Qa.c x))) b1 = some (true, .row (Qa.c x)) := Heap.put_same ..
 have hle1 := Heap.le_put n1 (g := .row (Qa.c x)) (m := true)
 generalize H.put b1 (.row (Qa.c x)) = H1 at *
 unfold checkV at k
 refine bxV hb1 (Qf4 (m := 65) (hv.le hle1) hB (by omega) fun r h0 h1 h2 => ?_)
 refine ift.of (fun h => ?_) (fun h => ?_)
 ·have h := of_decide_eq_true h
  rw [if_pos (by omega)] at k
  exact ⟨H, Gh.le hle1, k⟩
 have h := of_decide_eq_false h
 rw [if_neg (by omega)] at k
 refine bxV hb1 (Qj2 (hv.le hle1) hB fun g hg => ?_)
 refine ift.of (fun h => ?_) (fun h => ?_)
 ·have h : formV v = false := by simpa using h
  rw [if_pos h] at k
  exact ⟨H, Gh.le hle1, k⟩
 have hf : formV v = true := by simpa using h
 rw [if_neg (by rw [hf]; decide)] at k
 rw [hg hf]
 refine ift.of (fun h => ?_) (fun h => ?_)
 ·have h : fitsV v = false := by simpa using h
  rw [if_pos h] at k
  exact ⟨H, Gh.le hle1, k⟩
 have hf : fitsV v = true := by simpa using h
 rw [if_neg (by rw [hf]; decide)] at k
 exact ⟨H, Gh.le hle1, k⟩
end
end
section
open Go Go.Proofs
theorem Qhr (t : List V) : cmpVs [] t = sgn 0 t.length := by
 cases t with
 | nil => simp [cmpVs, sgn]
 | cons c t => simp only [cmpVs]; unfold sgn; rw [if_pos (by simp <;> omega)]
theorem Qgd {s : Str} (h : numS s = true) (hm : isMin s = true) : isMin s.tail = false ∧ s.tail ≠ [] := by
 cases s with
 | nil => simp [isMin] at hm
 | cons c t =>
  have hc : c = 45 := by simpa [isMin] using hm
  subst hc
  cases t with
  | nil => simp [numS, unmin] at h
  | cons d u =>
   refine ⟨?_, by simp⟩
   simp only [numS, unmin, List.head?_cons, if_true, List.tail_cons, Bool.and_eq_true, List.all_cons] at h
   have hd := h.1.2.1
   unfold isMin
   simp only [List.tail_cons, List.head?_cons, Option.some.injEq, decide_eq_false_iff_not]
   rintro rfl
   simp [digC] at hd
theorem QjY {a b : Str} (ha : isMin a = false) (hb : isMin b = false) : cmpB a b = cmpD a b := by unfold cmpB; rw [ha, hb]; rfl
theorem QiE {s : Str} (h : numS s = true) : s ≠ [] := fun e => by subst e; simp [numS, unmin] at h
section
variable {C : Ctx} {H : Heap}
theorem Qhq (v w : V) : cmpV v w = if v.k ≠ w.k then sgn v.k w.k else if v.k = 3 then cmpB v.s w.s else if v.k = 4 then vcmpS v.s w.s else if v.k = 5 then cmpVs v.l w.l else if v.k = 6 then (if vcmpS v.s w.s ≠ 0 then vcmpS v.s w.s else cmpVs v.l w.l) else sgn v.n w.n := by
 obtain ⟨k, n, s, l⟩ := v
 obtain ⟨k', n', s', l'⟩ := w
 simp only [cmpV, V.k, V.n, V.s, V.l]
 rfl
theorem QhN (v : V) : ((checkV v : Int) == 0) = mayV v := by unfold mayV; rw [Bool.eq_iff_iff]; simp
theorem Qcw {v : V} (h : mayV v = true) : formV v = true := ((QhO v).1 h).2.1
theorem Qgh : ∀ {l m : List V}, sameVs l m = true → l.length = m.length
 | [], [], _ => rfl
 | [], _ :: _, h => by simp [sameVs] at h
 | _ :: _, [], h => by simp [sameVs] at h
 | v :: l, w :: m, h => by
  simp only [sameVs, Bool.and_eq_true] at h
  have := Qgh h.2
  simp [this]
theorem Qfd {l m : List V} {s t : Sl} {H : Heap} {K : Bool → Heap → Prop} (hs : VRow H s l) (ht : VRow H t m) (hl : l.length ≤ 140737488355328)
 (ih : ∀ v ∈ l, ∀ w, ∀ {x y : TV} {K : Bool → Heap → Prop}, VIs H v x → VIs H w y → w ∈ m → K (sameV v w) H → Q2 C x y K H) (k : K (sameVs l m) H) : Qaa C s t K H := by
 apply Qe2
 unfold Qc8
 rw [hs.len, ht.len]
 by_cases hlm : l.length = m.length
 rotate_left
 ·refine QA (by simp; omega) ?_
  cases hh : sameVs l m with
  | true => exact absurd (Qgh hh) hlm
  | false => rw [hh] at k; exact k
 refine Qi (by simp; omega) ?_
 refine ⟨fun x H' => ∃ i : Nat, x = (i : Int) ∧ i ≤ l.length ∧ H = H' ∧ sameVs l m = sameVs (l.drop i) (m.drop i), fun x _ => l.length - x.toNat, ⟨0, rfl, Nat.zero_le _, rfl, rfl⟩, ?_⟩
 rintro x _ ⟨i, rfl, hi, rfl, ha⟩
 refine ift.of (fun h => ?_) (fun h => ?_)
 ·have h1 : i < l.length := by have := of_decide_eq_true h; omega
  have h2 : i < m.length := by omega
  have m1 := List.getElem_mem h1
  have m2 := List.getElem_mem h2
  rw [List.drop_eq_getElem_cons h1, List.drop_eq_getElem_cons h2] at ha
  simp only [sameVs] at ha
  refine ⟨H, Heap.le.refl _, ?_⟩
  refine hs.ld (Heap.le.refl _) rfl h1 fun y hy => ?_
  refine ht.ld (Heap.le.refl _) rfl h2 fun z hz => ?_
  refine ih _ m1 _ hy hz m2 ⟨Heap.le.refl _, ?_⟩
  refine ift.of (fun h => ?_) (fun h => ?_)
  ·have h : sameV l[i] m[i] = false := by simpa using h
   rw [ha, h] at k; exact k
  ·have h : sameV l[i] m[i] = true := by simpa using h
   rw [h, Bool.true_and] at ha
   rw [Qaq (by omega) (by omega)]
   exact ⟨⟨i + 1, by omega, by omega, rfl, ha⟩, by first | omega | (dsimp only; omega)⟩
 ·have hie : i = l.length := by have := of_decide_eq_false h; omega
  rw [hie, List.drop_length, hlm, List.drop_length] at ha
  rw [ha] at k; exact k
theorem QiV (v w : V) : sameV v w = (v.k == w.k && v.n == w.n && decide (v.s = w.s) && sameVs v.l w.l) := by
 obtain ⟨k, n, s, l⟩ := v
 obtain ⟨k', n', s', l'⟩ := w
 simp only [sameV, V.k, V.n, V.s, V.l]
 rfl
theorem QjT {v w : V} {x y : TV} {H : Heap} {K : Bool → Heap → Prop} (hv : VIs H v x) (hw : VIs H w y) (hB : VB v) (k : K (sameV v w) H) : Q2 C x y K H := by
 refine V.rec_ (P := fun v => ∀ {w x y H} {K : Bool → Heap → Prop}, VIs H v x → VIs H w y → VB v → K (sameV v w) H → Q2 C x y K H) (fun v ih => ?_) v hv hw hB k
 clear hv hw hB k
 intro w x y H K hv hw hB k
 apply Q2.gh
 apply Qgp
 unfold Qer
 intro b1 n1 b3 n3
 have hb3 : ((H.put b1 (.row (Qa.c x))).put b3 (.row (Qa.c y))) b3 = some (true, .row (Qa.c y)) := Heap.put_same ..
 have hne : b1 ≠ b3 := fun e => by rw [e, Heap.put_same] at n3; cases n3
 have hb1 : ((H.put b1 (.row (Qa.c x))).put b3 (.row (Qa.c y))) b1 = some (true, .row (Qa.c x)) := by rw [Heap.put_ne _ _ _ hne, Heap.put_same]
 have hle := (Heap.le_put n1 (g := .row (Qa.c x)) (m := true)).trans (Heap.le_put n3 (g := .row (Qa.c y)) (m := true))
 generalize (H.put b1 (.row (Qa.c x))).put b3 (.row (Qa.c y)) = H1 at *
 have k' : ∃ H0, Gh C H1 H0 ∧ K (sameV v w) H0 := ⟨H, Gh.le hle, k⟩
 rw [QiV] at k'
 refine bxK hb1 (bxK hb3 ?_)
 rw [hv.kind, hw.kind]
 refine ⟨fun b H' => H1 = H' ∧ b = (v.k == w.k && v.n == w.n), ?_, ?_⟩
 ·refine ift.of (fun h => ?_) (fun h => ⟨rfl, by rw [h]; rfl⟩)
  refine bxN hb1 (bxN hb3 ⟨rfl, ?_⟩)
  rw [h, hv.num, hw.num]; rfl
 rintro _ _ ⟨rfl, rfl⟩
 refine ⟨fun b H' => H1 = H' ∧ b = (v.k == w.k && v.n == w.n && decide (v.s = w.s)), ?_, ?_⟩
 ·refine ift.of (fun h => ?_) (fun h => ⟨rfl, by rw [h]; rfl⟩)
  refine bxS hb1 (bxS hb3 ⟨rfl, ?_⟩)
  rw [h, hv.txt, hw.txt, Bool.true_and, Bool.eq_iff_iff]; simp
 rintro _ _ ⟨rfl, rfl⟩
 refine ⟨fun b H' => H1 = H' ∧ b = (v.k == w.k && v.n == w.n && decide (v.s = w.s) && sameVs v.l w.l), ?_, ?_⟩
 ·refine ift.of (fun h => ?_) (fun h => ⟨rfl, by rw [h]; rfl⟩)
  refine bxL hb1 (bxL hb3 ?_)
  refine Qfd (hv.row.le hle) (hw.row.le hle) hB.l (fun p hp q {x' y'} {K'} hx hy _ kk => ih p hp hx hy (hB.ls.mem hp) kk) ⟨rfl, ?_⟩
  rw [h]; rfl
 rintro _ _ ⟨rfl, rfl⟩
 exact k'
theorem Qf6 {l m : List V} {s t : Sl} {H : Heap} {K : Bool → Heap → Prop} (hs : VRow H s l) (ht : VRow H t m) (hl : l.length ≤ 140737488355328) (hB : VBs l) (k : K (sameVs l m) H) : Qaa C s t K H :=
 Qfd hs ht hl (fun p hp q {x y} {K} hx hy _ kk => QjT hx hy (hB.mem hp) kk) k
end
end
section
open Go
section
variable {H : Type} {enc : TypeId × Value → H} {P : Program} {W : World}
/-- the type of values -/
structure ValT (P : Program) (t tl : TypeId) : Prop where
 st : ∃ fs : Array Field, P.underlying t = some (.struct fs) ∧ fs.size = 4 ∧ (∃ f tk, fs[0]? = some f ∧ f.type = tk ∧ f.offset = 0 ∧ P.underlying tk = some (.int .u8) ∧ P.cellsOf tk = 1) ∧ (∃ f tk, fs[1]? = some f ∧ f.type = tk ∧ f.offset = 1 ∧ P.underlying tk = some (.int .i64) ∧ P.cellsOf tk = 1) ∧ (∃ f tk, fs[2]? = some f ∧ f.type = tk ∧ f.offset = 2 ∧ P.underlying tk = some .string ∧ P.cellsOf tk = 1) ∧ (∃ f, fs[3]? = some f ∧ f.type = tl ∧ f.offset = 3 ∧ P.cellsOf tl = 1)
 cells : P.cellsOf t = 4
 sl : P.underlying tl = some (.slice t)
end
end
section
open Go
section
variable {H : Type} {enc : TypeId × Value → H} {P : Program} {W : World}
theorem Qg8 {t tl : TypeId} {css : List (List Value)} {s : Sl} (hl : css.length = s.len) (hr : rdsl (heapOf W) s css.flatten)
 (ih : ∀ c ∈ css, ∃ (v : V) (x : TV), c = Qa.c x ∧ VIs (heapOf W) v x ∧ VB v) : ∃ l : List V, VRow (heapOf W) s l ∧ VBs l := by
 have key : ∀ (css : List (List Value)), (∀ c ∈ css, ∃ (v : V) (x : TV), c = Qa.c x ∧ VIs (heapOf W) v x ∧ VB v) →
  ∃ (l : List V) (xs : List TV), css.flatten = xs.flatMap Qa.c ∧ css.length = xs.length ∧ VsAre (heapOf W) l xs ∧ VBs l := by
  intro css
  induction css with
  | nil => intro _; exact ⟨[], [], rfl, rfl, trivial, trivial⟩
  | cons c css ihc =>
   intro hh
   obtain ⟨v, x, h1, h2, h3⟩ := hh c (List.mem_cons_self ..)
   obtain ⟨l, xs, g1, g2, g3, g4⟩ := ihc fun c' hc => hh c' (List.mem_cons_of_mem _ hc)
   exact ⟨v :: l, x :: xs, by rw [List.flatten_cons, List.flatMap_cons, g1, h1], by simp [g2], ⟨h2, g3⟩, ⟨h3, g4⟩⟩
 obtain ⟨l, xs, g1, g2, g3, g4⟩ := key css ih
 exact ⟨l, ⟨xs, by rw [← g1]; exact hr, by omega, g3⟩, g4⟩
theorem Qkc {t tl : TypeId} (hT : ValT P t tl) (hb : 1 ≤ P.bytesOf t) : ∀ (n : Nat) {cs : List Value}, TrW P W n t cs → ∃ (v : V) (y : TV), cs = Qa.c y ∧ VIs (heapOf W) v y ∧ VB v := by
 intro n
 induction n using Nat.strongRecOn with
 | _ n ih =>
 intro cs h
 obtain ⟨fs, hu, hfs, ⟨f0, t0, a0, b0, c0, d0, e0⟩, ⟨f1, t1, a1, b1, c1, d1, e1⟩, ⟨f2, t2, a2, b2, c2, d2, e2⟩, ⟨f3, a3, b3, c3, e3⟩⟩ := hT.st
 obtain ⟨hl, m, rfl, hf⟩ := h.struct hu
 rw [hT.cells] at hl
 match cs, hl with
 | [q0, q1, q2, q3], _ =>
 have g0 := hf 0 f0 a0
 have g1 := hf 1 f1 a1
 have g2 := hf 2 f2 a2
 have g3 := hf 3 f3 a3
 rw [b0, c0, e0] at g0
 rw [b1, c1, e1] at g1
 rw [b2, c2, e2] at g2
 rw [b3, c3, e3] at g3
 simp at g0 g1 g2 g3
 obtain ⟨n0, k0, k2⟩ := g0.int d0
 obtain ⟨n1, l0, l2⟩ := g1.int d1
 obtain ⟨s2, m0, m1, m2⟩ := g2.str d2
 obtain ⟨s, css, m', hm', p0, p1, p2, p3, p4, p5, p6⟩ := g3.slice hT.sl hT.cells (by omega)
 have hmx : reachBytes = 140737488351232 := rfl
 rw [hmx] at p3 m2
 obtain ⟨l, r1, r2⟩ := Qg8 (t := t) (tl := tl) p4 p5 fun c hc => ih m' (by omega) (p6 c hc).2
 have hll := r1.len
 have hsl : s.len ≤ 140737488351232 := Nat.le_trans (Nat.le_mul_of_pos_right _ (by omega)) p3
 refine ⟨.mk n0 n1 s2 l, ⟨n0, n1, s2, s⟩, ?_, QcL.2 ⟨rfl, rfl, rfl, r1⟩, ⟨?_, ?_, by omega, by omega, r2⟩⟩
 ·injection k0 with k0
  injection l0 with l0
  injection m0 with m0
  injection p0 with p0
  subst k0; subst l0; subst m0; subst p0
  simp [Qa.c]
 ·simpa [Lit.wf, IntKind.min, IntKind.max, IntKind.signed, IntKind.bits] using k2
 ·simpa [Lit.wf, IntKind.min, IntKind.max, IntKind.signed, IntKind.bits] using l2
end
end
section
open Go Go.Proofs
/-- a list of rows -/
def VRows (H : Heap) (s : Sl) (ls : List (List V)) : Prop := ∃ xs : List Sl, rdsl H s (xs.map slv) ∧ s.len = xs.length ∧ xs.length = ls.length ∧ ∀ (i : Nat) (x : Sl) (l : List V), xs[i]? = some x → ls[i]? = some l → VRow H x l
theorem VRows.len {H : Heap} {s : Sl} {ls : List (List V)} (h : VRows H s ls) : s.len = ls.length := by
 obtain ⟨xs, h1, h2, h3, h4⟩ := h; omega
theorem VRows.ld {A H : Heap} {s : Sl} {ls : List (List V)} {i : Nat} {x : Int} {K : Sl → Prop} (h : VRows A s ls) (hle : A.le H) (hx : x = i) (hi : i < ls.length) (k : ∀ t, VRow A t ls[i] → K t) : ixa s x fun p => ldL H (p.1, p.2 + x.toNat * 1) K := by
 obtain ⟨xs, h1, h2, h3, h4⟩ := h
 subst hx
 rw [Int.toNat_natCast, Nat.mul_one]
 have hi2 : i < xs.length := by omega
 refine Qiw h1 (by omega) (by omega) (fun e => by have := congrArg List.length e; simp at this; rw [this] at hi2; simp at hi2) fun p hp hr => ?_
 refine ⟨xs[i], Qg7 hle (QfE hr i _ (by simp [hi2])), k _ (h4 i _ _ (List.getElem?_eq_getElem hi2) (List.getElem?_eq_getElem hi))⟩
section
variable {H : Type} {enc : TypeId × Value → H} {P : Program} {W : World}
theorem Qj8 {t tl : TypeId} (hT : ValT P t tl) (hb : 1 ≤ P.bytesOf t) {m : Nat} {c : List Value} (h : TrW P W m tl c) : ∃ (s : Sl) (l : List V), c = [slv s] ∧ VRow (heapOf W) s l ∧ VBs l ∧ l.length ≤ 140737488355328 := by
 obtain ⟨s, css, m', hm', p0, p1, p2, p3, p4, p5, p6⟩ := h.slice hT.sl hT.cells (by omega)
 obtain ⟨l, r1, r2⟩ := Qg8 (t := t) (tl := tl) p4 p5 fun c hc => Qkc hT hb m' (p6 c hc).2
 have hll := r1.len
 have hmx : reachBytes = 140737488351232 := rfl
 rw [hmx] at p3
 have hsl : s.len ≤ 140737488351232 := Nat.le_trans (Nat.le_mul_of_pos_right _ (by omega)) p3
 exact ⟨s, l, p0, r1, r2, by omega⟩
end
end
section
open Go Go.Proofs
theorem Qi8 (a b : UInt8) (s t : Str) : slt (a :: s) (b :: t) = (decide (a < b) || (decide (a = b) && slt s t)) := by
 simp only [slt, Op.bytesLess]
 by_cases h : a < b
 ·simp [h]
 ·by_cases h2 : a = b
  ·subst h2; simp [h]
  ·simp [h, h2]
theorem QdD (a : Int) : sgn a a = 0 := by unfold sgn; rw [if_neg (by omega), if_neg (by omega)]
theorem QiX (a b : Int) : -1 ≤ sgn a b ∧ sgn a b ≤ 1 := by unfold sgn; (split; · omega); (split <;> omega)
theorem QeO {a b : Int} : sgn a b < 0 ↔ a < b := by unfold sgn; (split; · omega); (split <;> omega)
theorem Qai {a b : Int} : sgn a b = 0 ↔ a = b := by unfold sgn; (split; · omega); (split <;> omega)
theorem vslt : ∀ s t : Str, slt s t = decide (vcmpS s t < 0) ∧ (vcmpS s t = 0 ↔ s = t) ∧ -1 ≤ vcmpS s t ∧ vcmpS s t ≤ 1
 | [], [] => ⟨rfl, by simp [vcmpS], by simp [vcmpS], by simp [vcmpS]⟩
 | [], b :: t => ⟨rfl, by simp [vcmpS], by simp [vcmpS], by simp [vcmpS]⟩
 | a :: s, [] => ⟨rfl, by simp [vcmpS], by simp [vcmpS], by simp [vcmpS]⟩
 | a :: s, b :: t => by
  obtain ⟨h1, h2, h3, h4⟩ := vslt s t
  rw [Qi8, h1]
  simp only [vcmpS]
  by_cases he : a = b
  ·subst he
   have : ¬ a < a := fun h => Nat.lt_irrefl _ h
   refine ⟨by simp [this], ?_, by rw [if_pos rfl]; exact h3, by rw [if_pos rfl]; exact h4⟩
   rw [if_pos rfl, h2]; simp
  ·have hne : ¬ (a.toNat : Int) = b.toNat := fun h => he (UInt8.toNat_inj.1 (by omega))
   have hz : ¬ sgn a.toNat b.toNat = 0 := fun h => hne (Qai.1 h)
   refine ⟨?_, ?_, ?_⟩
   ·simp only [he, if_false, decide_false, Bool.false_and, Bool.or_false]
    rw [decide_eq_decide, QeO, UInt8.lt_iff_toNat_lt]; omega
   ·simp only [he, if_false, List.cons.injEq, false_and]; exact ⟨fun h => hz h, fun h => h.elim⟩
   ·rw [if_neg he]; exact QiX _ _
section
variable {C : Ctx} {H : Heap}
theorem Qjn {a b : Int} {K : Int → Heap → Prop} (k : K (sgn a b) H) : Qa4 C a b K H := by
 have nan : ∀ {a : Int} {K : Bool → Heap → Prop}, K false H → QaN C a K H := fun {a K} k => by
  apply Qed
  unfold Qch
  simpa using k
 apply QdF
 unfold QbG
 refine nan (nan (Qi rfl (Qi rfl ?_)))
 unfold sgn at k
 refine ift.of (fun h => ?_) (fun h => ?_)
 ·rw [if_pos (of_decide_eq_true h)] at k; exact k
 rw [if_neg (of_decide_eq_false h)] at k
 refine ift.of (fun h => ?_) (fun h => ?_)
 ·rw [if_pos (show b < a from of_decide_eq_true h)] at k; exact k
 ·rw [if_neg (show ¬ b < a from of_decide_eq_false h)] at k; exact k
theorem QiH {a b : Int} {K : Int → Heap → Prop} (k : K (sgn a b) H) : Qa3 C a b K H := by
 have nan : ∀ {a : Int} {K : Bool → Heap → Prop}, K false H → QaM C a K H := fun {a K} k => by
  apply Qec
  unfold Qcg
  simpa using k
 apply QdE
 unfold QbF
 refine nan (nan (Qi rfl (Qi rfl ?_)))
 unfold sgn at k
 refine ift.of (fun h => ?_) (fun h => ?_)
 ·rw [if_pos (of_decide_eq_true h)] at k; exact k
 rw [if_neg (of_decide_eq_false h)] at k
 refine ift.of (fun h => ?_) (fun h => ?_)
 ·rw [if_pos (show b < a from of_decide_eq_true h)] at k; exact k
 ·rw [if_neg (show ¬ b < a from of_decide_eq_false h)] at k; exact k
theorem Qjo {a b : Int} {K : Int → Heap → Prop} (k : K (sgn a b) H) : Qbl C a b K H := by
 have nan : ∀ {a : Int} {K : Bool → Heap → Prop}, K false H → Qbf C a K H := fun {a K} k => by
  apply Qe1
  unfold Qc7
  simpa using k
 apply Qea
 unfold Qcf
 refine nan (nan (Qi rfl (Qi rfl ?_)))
 unfold sgn at k
 refine ift.of (fun h => ?_) (fun h => ?_)
 ·rw [if_pos (of_decide_eq_true h)] at k; exact k
 rw [if_neg (of_decide_eq_false h)] at k
 refine ift.of (fun h => ?_) (fun h => ?_)
 ·rw [if_pos (show b < a from of_decide_eq_true h)] at k; exact k
 ·rw [if_neg (show ¬ b < a from of_decide_eq_false h)] at k; exact k
theorem QgF {a b : Str} {K : Int → Heap → Prop} (k : K (vcmpS a b) H) : Qw C a b K H := by
 have nan : ∀ {a : Str} {K : Bool → Heap → Prop}, K false H → Q0 C a K H := fun {a K} k => by
  apply QbS
  unfold Qa6
  simpa using k
 apply Qbo
 unfold QaI
 obtain ⟨h1, h2, h3, h4⟩ := vslt a b
 refine nan (nan (Qi rfl (Qi rfl ?_)))
 refine ift.of (fun h => ?_) (fun h => ?_)
 ·rw [h1] at h
  have := of_decide_eq_true h
  rw [show vcmpS a b = -1 by omega] at k; exact k
 have hn : ¬ vcmpS a b < 0 := by rw [h1] at h; exact of_decide_eq_false h
 rw [h, Bool.false_or]
 refine ift.of (fun h => ?_) (fun h => ?_)
 ·have : ¬ a = b := by simpa using h
  have : ¬ vcmpS a b = 0 := fun e => this (h2.1 e)
  rw [show vcmpS a b = 1 by omega] at k; exact k
 ·have : a = b := by simpa using h
  rw [h2.2 this] at k; exact k
theorem QjN {b : Nat} {m : Bool} {l : List Int} {n : Nat} {K : Int → Heap → Prop} (hb : H b = some (m, .row (l.map fun x => Value.int .i64 x))) (hn : n = l.length) (hl : l.length ≤ 1000) (k : K ((l.find? fun x => x != 0).getD 0) H) : Qa7 C (Sl.of (some (b, 0)) n n) K H := by
 subst hn
 apply Qeb
 unfold QcY
 refine ⟨fun x H' => ∃ i : Nat, x = (i : Int) ∧ i ≤ l.length ∧ H = H' ∧ (l.find? fun x => x != 0) = ((l.drop i).find? fun x => x != 0), fun x _ => l.length - x.toNat, ⟨0, rfl, Nat.zero_le _, rfl, rfl⟩, ?_⟩
 rintro x _ ⟨i, rfl, hi, rfl, hc⟩
 refine ift.of (fun h => ?_) (fun h => ?_)
 ·have h1 : i < l.length := by have := of_decide_eq_true h; simp only [Sl.of] at this; omega
  refine ⟨(b, 0), rfl, rfl, by omega, of_decide_eq_true h, l[i], ?_, ?_⟩
  ·simp [rd, hb, GO.cells?, h1]
  rw [List.drop_eq_getElem_cons h1, List.find?_cons] at hc
  refine ift.of (fun h => ?_) (fun h => ?_)
  ·rw [h] at hc
   rw [hc] at k; exact k
  ·rw [h] at hc
   rw [Qaq (by omega) (by omega)]
   exact ⟨⟨i + 1, by omega, by omega, rfl, hc⟩, by first | omega | (dsimp only; omega)⟩
 ·have : i = l.length := by have := of_decide_eq_false h; simp only [Sl.of] at this; omega
  subst this
  rw [hc, List.drop_length] at k; exact k
theorem QbR {s p : Str} {K : Bool → Heap → Prop} (k : K (p.isPrefixOf s) H) : Qaf C s p K H := by
 apply QdH
 unfold QbI
 exact QeT k
theorem pre45 (s : Str) : ([45] : Str).isPrefixOf s = isMin s := by
 cases s with
 | nil => rfl
 | cons c s =>
  simp only [List.isPrefixOf, isMin, List.head?_cons, Option.some.injEq, Bool.and_true]
  by_cases h : c = 45
  ·subst h; rfl
  ·have h2 : ¬ (45 : UInt8) = c := fun e => h e.symm
   simp [h, h2]
theorem or2 (a b : Int) : (([a, b].find? fun x => x != 0).getD 0) = if a ≠ 0 then a else b := by
 by_cases h : a = 0
 ·subst h
  by_cases hb : b = 0
  ·subst hb; rfl
  ·simp [hb]
 ·simp [h]
theorem or3 (a b c : Int) : (([a, b, c].find? fun x => x != 0).getD 0) = if a ≠ 0 then a else if b ≠ 0 then b else c := by
 by_cases h : a = 0
 ·subst h
  have := or2 b c
  simpa using this
 ·simp [h]
theorem Qg2 {a b : Str} {K : Int → Heap → Prop} (ma : isMin a = false) (mb : isMin b = false) (k : K (cmpD a b) H) : Q3 C a b K H := by
 apply Q3.gh
 apply Qee
 unfold QcZ
 refine QbR (QbR ?_)
 rw [pre45, pre45, ma, mb]
 refine Qi rfl (Qi rfl (Qi rfl ?_))
 refine Qjo (QgF ?_)
 intro c hc
 refine QjN (l := [sgn a.length b.length, vcmpS a b]) (Heap.put_same ..) rfl (by simp) ?_
 refine ⟨H, Gh.le (Heap.le_put hc), ?_⟩
 rw [or2]
 unfold cmpD at k
 by_cases h : a.length = b.length
 ·rw [if_pos h] at k
  rw [if_neg (by rw [h, QdD]; simp)]; exact k
 ·rw [if_neg h] at k
  rw [if_pos (fun e => h (by have := Qai.1 e; omega))]; exact k
theorem Qjm {a b : Str} {K : Int → Heap → Prop} (na : numS a = true) (nb : numS b = true) (k : K (cmpB a b) H) : Q3 C a b K H := by
 by_cases hn : isMin a = false ∧ isMin b = false
 ·rw [QjY hn.1 hn.2] at k; exact Qg2 hn.1 hn.2 k
 apply Qee
 unfold QcZ
 refine QbR (QbR ?_)
 rw [pre45, pre45]
 unfold cmpB at k
 refine ift.of (fun h => ?_) (fun h => ?_)
 ·obtain ⟨h1, h2⟩ := Bool.and_eq_true_iff.1 h
  rw [if_pos h1, if_pos h2] at k
  have la : 1 ≤ a.length := by have := QiE na; cases a <;> simp_all
  have lb : 1 ≤ b.length := by have := QiE nb; cases b <;> simp_all
  refine ⟨H, Heap.le.refl _, by omega, by omega, by omega, _, rfl, by omega, by omega, by omega, _, rfl, ?_⟩
  have ea : (a.take (a.length : Int).toNat).drop (1 : Int).toNat = a.tail := by simp
  have eb : (b.take (b.length : Int).toNat).drop (1 : Int).toNat = b.tail := by simp
  rw [ea, eb]
  exact Qg2 (Qgd nb h2).1 (Qgd na h1).1 ⟨Heap.le.refl _, k⟩
 refine ift.of (fun h1 => ?_) (fun h1 => ?_)
 ·rw [if_pos h1] at k
  have h2 : isMin b = false := by rw [h1] at h; simpa using h
  rw [if_neg (by rw [h2]; simp)] at k; exact k
 rw [if_neg (by rw [h1]; simp)] at k
 refine ift.of (fun h2 => ?_) (fun h2 => ?_)
 ·rw [if_pos h2] at k; exact k
 ·exact absurd ⟨h1, h2⟩ hn
theorem Qjp {a b : Bool} {K : Int → Heap → Prop} (k : K (lastB a b) H) : Qdg C a b K H := by
 apply Qgr
 unfold Qet
 unfold lastB at k
 refine ift.of (fun h => ?_) (fun h => ?_)
 ·rw [if_pos (by simpa using h)] at k; exact k
 rw [if_neg (by simpa using h)] at k
 refine ift.of (fun h => ?_) (fun h => ?_)
 ·rw [if_pos h] at k; exact k
 ·rw [if_neg (by rw [h]; decide)] at k; exact k
theorem Qj3 {v : V} {x : TV} {K : Bool → Heap → Prop} (hv : VIs H v x) (hB : VB v) (k : K (!mayV v) H) : Qah C x K H := by
 apply Qah.gh
 apply QfZ
 unfold QdY
 intro c hc
 have hle := Heap.le_put hc (g := .row (Qa.c x)) (m := true)
 refine bxV (Heap.put_same ..) ?_
 refine Qcs (hv.le hle) hB ⟨H, Gh.le hle, ?_⟩
 rw [bne, QhN]; exact k
/-- a function that is asked of each value -/
theorem Qit {l : List V} {s : Sl} {f : Value} {φ : V → Bool} {K : Int → Heap → Prop} (hs : VRow H s l) (hl : l.length ≤ 140737488355328)
 (hf : ∀ v x, v ∈ l → VIs H v x → ∀ Φ : Value → Heap → Prop, Φ (.bool (φ v)) H → callU Tryz.prog C f [.agg (Qa.c x).toArray] H Φ)
 (k : ∀ i : Int, (0 ≤ i ↔ l.any φ = true) → K i H) : Qu C s f K H := by
 apply QaE
 unfold QQ
 rw [hs.len]
 refine ⟨fun x H' => ∃ i : Nat, x = (i : Int) ∧ i ≤ l.length ∧ H = H' ∧ (l.take i).any φ = false, fun x _ => l.length - x.toNat, ⟨0, rfl, Nat.zero_le _, rfl, rfl⟩, ?_⟩
 rintro x _ ⟨i, rfl, hi, rfl, ha⟩
 refine ift.of (fun h => ?_) (fun h => ?_)
 ·have hlt : i < l.length := by have := of_decide_eq_true h; omega
  have hm := List.getElem_mem hlt
  refine hs.ld (Heap.le.refl _) rfl hlt fun y hy => ?_
  refine hf _ y hm hy _ ⟨_, rfl, ?_⟩
  refine ift.of (fun h => ?_) (fun h => ?_)
  ·exact k _ ⟨fun _ => List.any_eq_true.2 ⟨_, hm, h⟩, fun _ => by omega⟩
  ·rw [Qaq (by omega) (by omega)]
   refine ⟨⟨i + 1, by omega, by omega, rfl, ?_⟩, by first | omega | (dsimp only; omega)⟩
   rw [List.take_add_one, List.getElem?_eq_getElem hlt, Option.toList_some, List.any_append, ha]; simp [h]
 ·have hie : i = l.length := by have := of_decide_eq_false h; omega
  rw [hie, List.take_length] at ha
  exact k _ ⟨fun h => by omega, fun h => by rw [h] at ha; cases ha⟩
theorem QgX {l : List V} {s : Sl} {f : Value} {φ : V → Bool} {K : Bool → Heap → Prop} (hs : VRow H s l) (hl : l.length ≤ 140737488355328)
 (hf : ∀ v x, v ∈ l → VIs H v x → ∀ Φ : Value → Heap → Prop, Φ (.bool (φ v)) H → callU Tryz.prog C f [.agg (Qa.c x).toArray] H Φ)
 (k : K (l.any φ) H) : Qr C s f K H := by
 apply Qak
 unfold QH
 refine Qit hs hl hf fun i hi => ?_
 have : decide (i ≥ 0) = l.any φ := by
  rw [Bool.eq_iff_iff, decide_eq_true_eq]; exact hi
 rw [this]; exact k
theorem QiI {l : List V} {s : Sl} {K : Bool → Heap → Prop} (hs : VRow H s l) (hl : l.length ≤ 140737488355328) (hB : VBs l) (k : K (mayR l) H) : QcQ C s K H := by
 apply QgU
 unfold QeY
 refine QgX (φ := fun v => !mayV v) hs hl (fun v x hv hx Φ hΦ => ⟨_, [], [], rfl, Qf2, ?_⟩) ?_
 ·have h : Qah C x (fun r H2 => Φ (.bool r) H2) H := Qj3 hx (hB.mem hv) hΦ
  exact Spec.mono h fun v H2 ⟨r, hv, h⟩ => by rw [hv]; exact h
 ·have : (!(l.any fun v => !mayV v)) = mayR l := by unfold mayR; rw [List.not_any_eq_all_not]; simp
  rw [this]; exact k
/-- rows, value by value -/
theorem Qhs {l m : List V} {s t : Sl} {f : Value} {K : Int → Heap → Prop} (hs : VRow H s l) (ht : VRow H t m) (hl : l.length ≤ 140737488355328) (hm : m.length ≤ 140737488355328)
 (hf : ∀ v x w y, v ∈ l → w ∈ m → ∀ A : Heap, H.le A → VIs A v x → VIs A w y → ∀ Φ : Value → Heap → Prop, Φ (.int .i64 (cmpV v w)) A → callU Tryz.prog C f [.agg (Qa.c x).toArray, .agg (Qa.c y).toArray] A Φ)
 (k : K (cmpVs l m) H) : Qe C s t f K H := by
 apply Qe.gh
 apply QI
 unfold Qo
 rw [hs.len, ht.len]
 refine ⟨fun x A => ∃ i : Nat, x = (i : Int) ∧ i ≤ l.length ∧ i ≤ m.length ∧ H.le A ∧ cmpVs l m = cmpVs (l.drop i) (m.drop i), fun x _ => l.length - x.toNat, ⟨0, rfl, Nat.zero_le _, Nat.zero_le _, Heap.le.refl _, rfl⟩, ?_⟩
 rintro x A ⟨i, rfl, hi, hi2, hA, hc⟩
 refine ift.of (fun h => ?_) (fun h => ?_)
 ·have h1 : i < l.length := by have := of_decide_eq_true h; omega
  have m1 := List.getElem_mem h1
  refine hs.ld hA rfl h1 fun y hy => ?_
  intro b1 n1
  have hle1 := Heap.le_put n1 (g := .row (Qa.c Qa.zero)) (m := true)
  refine ⟨_, Heap.put_same .., by simp [Qa.c], ?_⟩
  have e1 : ∀ z : TV, splice (Qa.c Qa.zero) 0 (Qa.c z) = Qa.c z := fun z => by simp [splice, Qa.c]
  dsimp only
  rw [e1, Heap.put_put]
  have hle1 := Heap.le_put n1 (g := .row (Qa.c y)) (m := true)
  refine ift.of (fun h => ?_) (fun h => ?_)
  ·have h2 : i = m.length := by have := of_decide_eq_true h; omega
   refine ⟨H, Gh.le (hA.trans hle1), ?_⟩
   subst h2
   rw [hc, List.drop_length, List.drop_eq_getElem_cons h1] at k; exact k
  ·have h2 : i < m.length := by have := of_decide_eq_false h; omega
   have m2 := List.getElem_mem h2
   rw [List.drop_eq_getElem_cons h1, List.drop_eq_getElem_cons h2] at hc
   refine ht.ld (hA.trans hle1) rfl h2 fun z hz => ?_
   intro b2 n2
   refine ⟨_, Heap.put_same .., by simp [Qa.c], ?_⟩
   dsimp only
   rw [e1, Heap.put_put]
   have hle2 := Heap.le_put n2 (g := .row (Qa.c z)) (m := true)
   have hne : b1 ≠ b2 := fun e => by rw [← e, Heap.put_same] at n2; cases n2
   refine bxV (m := true) (by rw [Heap.put_ne _ _ _ hne, Heap.put_same]) (bxV (m := true) (Heap.put_same ..) ?_)
   have hle := (hA.trans hle1).trans hle2
   refine hf _ y _ z m1 m2 _ hle (hy.le hle) (hz.le hle) _ ⟨_, rfl, ?_⟩
   simp only [cmpVs] at hc
   refine ift.of (fun h => ?_) (fun h => ?_)
   ·rw [if_pos (by simpa using h)] at hc
    rw [hc] at k; exact ⟨H, Gh.le hle, k⟩
   ·rw [if_neg (by simpa using h)] at hc
    rw [Qaq (by omega) (by omega)]
    exact ⟨⟨i + 1, by omega, by omega, by omega, hle, hc⟩, by first | omega | (dsimp only; omega)⟩
 ·have h1 : i = l.length := by have := of_decide_eq_false h; omega
  subst h1
  rw [hc, List.drop_length, Qhr, List.length_drop] at k
  refine ift.of (fun h => ?_) (fun h => ?_)
  ·have := of_decide_eq_true h
   rw [show sgn 0 ((m.length - l.length : Nat) : Int) = -1 by unfold sgn; rw [if_pos (by omega)]] at k
   exact ⟨H, Gh.le hA, k⟩
  ·have := of_decide_eq_false h
   rw [show sgn 0 ((m.length - l.length : Nat) : Int) = 0 by rw [Qai]; omega] at k
   exact ⟨H, Gh.le hA, k⟩
theorem Qg4 {l m : List V} {s t : Sl} {K : Int → Heap → Prop} (hs : VRow H s l) (ht : VRow H t m) (hl : l.length ≤ 140737488355328) (hm : m.length ≤ 140737488355328)
 (ih : ∀ v ∈ l, ∀ w ∈ m, ∀ {A : Heap} {x y : TV} {K : Int → Heap → Prop}, VIs A v x → VIs A w y → K (cmpV v w) A → Qz C x y K A) (k : K (cmpVs l m) H) : Qbs C s t K H := by
 apply Qgt
 unfold Qev
 refine Qhs hs ht hl hm (fun v x w y hv hw A hA hx hy Φ hΦ => ⟨_, [], [], rfl, QfC, ?_⟩) k
 have h : Qas C x y (fun r H2 => Φ (.int .i64 r) H2) A := by
  apply Qas.gh
  apply Qfn
  unfold Qdx
  intro b1 n1 b3 n3
  have hb3 : ((A.put b1 (.row (Qa.c x))).put b3 (.row (Qa.c y))) b3 = some (true, .row (Qa.c y)) := Heap.put_same ..
  have hne : b1 ≠ b3 := fun e => by rw [e, Heap.put_same] at n3; cases n3
  have hb1 : ((A.put b1 (.row (Qa.c x))).put b3 (.row (Qa.c y))) b1 = some (true, .row (Qa.c x)) := by rw [Heap.put_ne _ _ _ hne, Heap.put_same]
  have hle := (Heap.le_put n1 (g := .row (Qa.c x)) (m := true)).trans (Heap.le_put n3 (g := .row (Qa.c y)) (m := true))
  generalize (A.put b1 (.row (Qa.c x))).put b3 (.row (Qa.c y)) = B at *
  refine bxV hb1 (bxV hb3 ?_)
  exact ih v hv w hw (hx.le hle) (hy.le hle) ⟨A, Gh.le hle, hΦ⟩
 exact Spec.mono h fun v H2 ⟨r, hv, h⟩ => by rw [hv]; exact h
theorem QbV {k n : Int} {s : Str} {m : Nat} (h : okN k n s m = true) : (k = 1 ∧ s = [] ∧ m = 0) ∨ (k = 2 ∧ s = [] ∧ m = 0) ∨ (k = 3 ∧ n = 0 ∧ m = 0) ∨ (k = 4 ∧ n = 0 ∧ m = 0) ∨ (k = 5 ∧ n = 0 ∧ s = []) ∨ (k = 6 ∧ n = 0) := by
 unfold okN at h
 split at h
 ·rename_i e
  simp only [Bool.and_eq_true, decide_eq_true_eq, List.isEmpty_iff] at h
  exact .inl ⟨e, h.1.2, h.2⟩
 split at h
 ·rename_i e
  simp only [Bool.and_eq_true, decide_eq_true_eq, List.isEmpty_iff] at h
  exact .inr (.inl ⟨e, h.1, h.2⟩)
 split at h
 ·rename_i e
  simp only [Bool.and_eq_true, decide_eq_true_eq, beq_iff_eq] at h
  exact .inr (.inr (.inl ⟨e, h.1.2, h.2⟩))
 split at h
 ·rename_i e
  simp only [Bool.and_eq_true, decide_eq_true_eq, beq_iff_eq] at h
  exact .inr (.inr (.inr (.inl ⟨e, h.1, h.2⟩)))
 split at h
 ·rename_i e
  simp only [Bool.and_eq_true, decide_eq_true_eq, beq_iff_eq, List.isEmpty_iff] at h
  exact .inr (.inr (.inr (.inr (.inl ⟨e, h.1.1, h.1.2⟩))))
 split at h
 ·rename_i e
  simp only [Bool.and_eq_true, decide_eq_true_eq, beq_iff_eq] at h
  exact .inr (.inr (.inr (.inr (.inr ⟨e, h.1⟩))))
 ·cases h
theorem Qj4 {v w : V} {x y : TV} {H : Heap} {K : Int → Heap → Prop} (hv : VIs H v x) (hw : VIs H w y) (hB : VB v) (hB2 : VB w) (hF : formV v = true) (hF2 : formV w = true) (k : K (cmpV v w) H) : Qz C x y K H := by
 refine V.rec_ (P := fun v => ∀ {w x y H} {K : Int → Heap → Prop}, VIs H v x → VIs H w y → VB v → VB w → formV v = true → formV w = true → K (cmpV v w) H → Qz C x y K H) (fun v ih => ?_) v hv hw hB hB2 hF hF2 k
 clear hv hw hB hB2 hF hF2 k
 intro w x y H K hv hw hB hB2 hF hF2 k
 apply Qz.gh
 apply QeG
 unfold QcK
 intro b1 n1 b3 n3
 have hb3 : ((H.put b1 (.row (Qa.c x))).put b3 (.row (Qa.c y))) b3 = some (true, .row (Qa.c y)) := Heap.put_same ..
 have hne : b1 ≠ b3 := fun e => by rw [e, Heap.put_same] at n3; cases n3
 have hb1 : ((H.put b1 (.row (Qa.c x))).put b3 (.row (Qa.c y))) b1 = some (true, .row (Qa.c x)) := by rw [Heap.put_ne _ _ _ hne, Heap.put_same]
 have hle := (Heap.le_put n1 (g := .row (Qa.c x)) (m := true)).trans (Heap.le_put n3 (g := .row (Qa.c y)) (m := true))
 generalize (H.put b1 (.row (Qa.c x))).put b3 (.row (Qa.c y)) = H1 at *
 have k' : ∃ H0, Gh C H1 H0 ∧ K (cmpV v w) H0 := ⟨H, Gh.le hle, k⟩
 rw [Qfa, Bool.and_eq_true] at hF hF2
 rw [Qhq] at k'
 refine bxK hb1 (bxK hb3 ?_)
 rw [hv.kind, hw.kind]
 refine Qjn ?_
 refine ift.of (fun h => ?_) (fun h => ?_)
 ·rw [if_pos (fun e => by rw [e, QdD] at h; simp at h)] at k'; exact k'
 have hkk : v.k = w.k := Qai.1 (by simpa using h)
 rw [if_neg (by simp [hkk])] at k'
 have hr1 := hv.row.le hle
 have hr2 := hw.row.le hle
 refine bxK hb1 ?_
 rw [hv.kind]
 refine ift.of (fun h => ?_) (fun h3 => ?_)
 ·have h : v.k = 3 := by simpa using h
  rw [if_pos h] at k'
  refine bxS hb1 (bxS hb3 ?_)
  rw [hv.txt, hw.txt]
  exact Qjm (QiF hF.1 h) (QiF hF2.1 (by omega)) k'
 have h3 : ¬ v.k = 3 := by simpa using h3
 rw [if_neg h3] at k'
 refine ift.of (fun h => ?_) (fun h4 => ?_)
 ·have h : v.k = 4 := by simpa using h
  rw [if_pos h] at k'
  refine bxS hb1 (bxS hb3 ?_)
  rw [hv.txt, hw.txt]
  exact QgF k'
 have h4 : ¬ v.k = 4 := by simpa using h4
 rw [if_neg h4] at k'
 refine ⟨H1, Heap.le.refl _, ?_⟩
 refine bxN hb1 (bxN hb3 (bxS hb1 (bxS hb3 (bxL hb1 (bxL hb3 ?_)))))
 rw [hv.num, hw.num, hv.txt, hw.txt]
 refine QiH ⟨Heap.le.refl _, QgF ⟨Heap.le.refl _, ?_⟩⟩
 refine Qg4 hr1 hr2 hB.l hB2.l (fun p hp q hq {A x' y'} {K'} hx hy kk => ih p hp hx hy (hB.ls.mem hp) (hB2.ls.mem hq) (QeI hp hF.2) (QeI hq hF2.2) kk) ⟨Heap.le.refl _, ?_⟩
 intro b5 n5
 have hle5 := Heap.le_put n5 (g := .row [Value.int .i64 (sgn v.n w.n), .int .i64 (vcmpS v.s w.s), .int .i64 (cmpVs v.l w.l)]) (m := true)
 refine ⟨hle5, ?_⟩
 refine QjN (l := [sgn v.n w.n, vcmpS v.s w.s, cmpVs v.l w.l]) (Heap.put_same ..) rfl (by simp) ⟨hle5, ?_⟩
 rw [or3]
 obtain ⟨H0, hg, hk⟩ := k'
 refine ⟨H0, (Gh.le hle5).trans hg, ?_⟩
 rcases QbV hF.1 with ⟨e, e1, e2⟩ | ⟨e, e1, e2⟩ | ⟨e, _⟩ | ⟨e, _⟩ | ⟨e, e1, e2⟩ | ⟨e, e1⟩
 ·rcases QbV hF2.1 with ⟨f, f1, f2⟩ | ⟨f, _⟩ | ⟨f, _⟩ | ⟨f, _⟩ | ⟨f, _⟩ | ⟨f, _⟩ <;> try (exfalso; omega)
  rw [if_neg (by omega), if_neg (by omega)] at hk
  have l1 := List.length_eq_zero_iff.1 e2
  have l2 := List.length_eq_zero_iff.1 f2
  rw [e1, f1, l1, l2]
  split
  ·exact hk
  ·rename_i hz
   have : sgn v.n w.n = 0 := by omega
   rw [this] at hk
   simpa [vcmpS, cmpVs] using hk
 ·rcases QbV hF2.1 with ⟨f, _⟩ | ⟨f, f1, f2⟩ | ⟨f, _⟩ | ⟨f, _⟩ | ⟨f, _⟩ | ⟨f, _⟩ <;> try (exfalso; omega)
  rw [if_neg (by omega), if_neg (by omega)] at hk
  have l1 := List.length_eq_zero_iff.1 e2
  have l2 := List.length_eq_zero_iff.1 f2
  rw [e1, f1, l1, l2]
  split
  ·exact hk
  ·rename_i hz
   have : sgn v.n w.n = 0 := by omega
   rw [this] at hk
   simpa [vcmpS, cmpVs] using hk
 ·exact absurd e h3
 ·exact absurd e h4
 ·rcases QbV hF2.1 with ⟨f, _⟩ | ⟨f, _⟩ | ⟨f, _⟩ | ⟨f, _⟩ | ⟨f, f1, f2⟩ | ⟨f, _⟩ <;> try (exfalso; omega)
  rw [if_pos e] at hk
  rw [e1, f1, e2, f2, QdD]
  simpa [vcmpS] using hk
 ·rcases QbV hF2.1 with ⟨f, _⟩ | ⟨f, _⟩ | ⟨f, _⟩ | ⟨f, _⟩ | ⟨f, _⟩ | ⟨f, f1⟩ <;> try (exfalso; omega)
  rw [if_neg (by omega), if_pos e] at hk
  rw [e1, f1, QdD]
  simpa using hk
theorem Qjq {l m : List V} {s t : Sl} {K : Int → Heap → Prop} (hs : VRow H s l) (ht : VRow H t m) (hl : l.length ≤ 140737488355328) (hm : m.length ≤ 140737488355328) (hB : VBs l) (hB2 : VBs m) (hF : mayR l = true) (hF2 : mayR m = true) (k : K (cmpVs l m) H) : Qbs C s t K H :=
 Qg4 hs ht hl hm (fun p hp q hq {A x' y'} {K'} hx hy kk => Qj4 hx hy (hB.mem hp) (hB2.mem hq) (Qcw (List.all_eq_true.1 hF p hp)) (Qcw (List.all_eq_true.1 hF2 q hq)) kk) k
theorem QfD {l m : List V} {s t : Sl} {K : Int → Heap → Prop} (hs : VRow H s l) (ht : VRow H t m) (hl : l.length ≤ 140737488355328) (hm : m.length ≤ 140737488355328) (hB : VBs l) (hB2 : VBs m) (k : K (cmpR l m) H) : Qbj C s t K H := by
 apply Qe6
 unfold Qdc
 refine QiI hs hl hB (QiI ht hm hB2 ?_)
 unfold cmpR at k
 refine ift.of (fun h => ?_) (fun h => ?_)
 ·refine Qjp ?_
  rw [if_neg (by intro hh; rw [hh.1, hh.2] at h; cases h)] at k; exact k
 ·have h1 : mayR l = true ∧ mayR m = true := by simpa using h
  rw [if_pos h1] at k
  exact Qjq hs ht hl hm hB hB2 h1.1 h1.2 k
end
end
section
open Go Go.Proofs
/-- an order, told by signs -/
structure Lin {α : Type} (f : α → α → Int) (P : α → Prop) : Prop where
 anti : ∀ a b, P a → P b → f b a = - f a b
 rng : ∀ a b, P a → P b → -1 ≤ f a b ∧ f a b ≤ 1
 tr : ∀ a b c, P a → P b → P c → f a b ≤ 0 → f b c ≤ 0 → f a c ≤ 0 ∧ (f a b < 0 ∨ f b c < 0 → f a c < 0)
section
variable {α β : Type} {f g : α → α → Int} {P Q : α → Prop}
theorem Lin.refl (h : Lin f P) {a : α} (ha : P a) : f a a = 0 := by have := h.anti a a ha ha; omega
theorem Lin.l0 (h : Lin f P) {a b c : α} (ha : P a) (hb : P b) (hc : P c) (e : f a b = 0) : f a c = f b c := by
 have t1 := h.tr a b c ha hb hc (by omega)
 have e' := h.anti a b ha hb
 have t2 := h.tr b a c hb ha hc (by omega)
 have r1 := h.rng a c ha hc
 have r2 := h.rng b c hb hc
 rcases Int.lt_trichotomy (f b c) 0 with h1 | h1 | h1
 ·have := (t1 (by omega)).2 (.inr h1); omega
 ·have k1 := (t1 (by omega)).1
  rcases Int.lt_trichotomy (f a c) 0 with h2 | h2 | h2
  ·have := (t2 (by omega)).2 (.inr h2); omega
  ·omega
  ·omega
 ·rcases Int.lt_trichotomy (f a c) 0 with h2 | h2 | h2
  ·have := (t2 (by omega)).2 (.inr h2); omega
  ·have := (t2 (by omega)).1; omega
  ·omega
theorem Lin.r0 (h : Lin f P) {a b c : α} (ha : P a) (hb : P b) (hc : P c) (e : f b c = 0) : f a c = f a b := by
 have h1 := h.anti b c hb hc
 have h2 := h.l0 hc hb ha (by omega)
 have h3 := h.anti a c ha hc
 have h4 := h.anti a b ha hb
 omega
theorem Lin.sub (h : Lin f P) (hs : ∀ a, Q a → P a) : Lin f Q := ⟨fun a b ha hb => h.anti a b (hs a ha) (hs b hb), fun a b ha hb => h.rng a b (hs a ha) (hs b hb), fun a b c ha hb hc => h.tr a b c (hs a ha) (hs b hb) (hs c hc)⟩
theorem Lin.swap (h : Lin f P) : Lin (fun a b => f b a) P := ⟨fun a b ha hb => h.anti b a hb ha, fun a b ha hb => h.rng b a hb ha, fun a b c ha hb hc h1 h2 => by
 have := h.tr c b a hc hb ha h2 h1
 exact ⟨this.1, fun hh => this.2 hh.symm⟩⟩
theorem Lin.comp {f : β → β → Int} {P : β → Prop} (h : Lin f P) (u : α → β) : Lin (fun a b => f (u a) (u b)) (fun a => P (u a)) :=
 ⟨fun a b ha hb => h.anti _ _ ha hb, fun a b ha hb => h.rng _ _ ha hb, fun a b c ha hb hc => h.tr _ _ _ ha hb hc⟩
theorem Lin.or (h : Lin f P) (h2 : Lin g P) : Lin (fun a b => if f a b ≠ 0 then f a b else g a b) P := by
 refine ⟨fun a b ha hb => ?_, fun a b ha hb => ?_, fun a b c ha hb hc => ?_⟩
 ·have e1 := h.anti a b ha hb
  have e2 := h2.anti a b ha hb
  try dsimp only
  by_cases hz : f a b = 0
  ·rw [if_neg (by omega), if_neg (by omega)]; exact e2
  ·rw [if_pos (by omega), if_pos (by omega)]; exact e1
 ·try dsimp only
  split
  ·exact h.rng a b ha hb
  ·exact h2.rng a b ha hb
 ·try dsimp only
  have t := h.tr a b c ha hb hc
  have t2 := h2.tr a b c ha hb hc
  by_cases h1 : f a b = 0
  ·have e := h.l0 ha hb hc h1
   by_cases h3 : f b c = 0
   ·rw [if_neg (by omega), if_neg (by omega), if_neg (by omega)]; exact t2
   ·rw [if_neg (by omega), if_pos h3, if_pos (by omega)]
    intro _ k2
    exact ⟨by omega, fun _ => by omega⟩
  ·by_cases h3 : f b c = 0
   ·have e := h.r0 ha hb hc h3
    rw [if_pos h1, if_neg (by omega), if_pos (by omega)]
    intro k1 _
    exact ⟨by omega, fun _ => by omega⟩
   ·rw [if_pos h1, if_pos h3]
    intro k1 k2
    have := (t k1 k2).2 (.inl (by omega))
    rw [if_pos (by omega)]
    exact ⟨by omega, fun _ => this⟩
/-- first by classes, then within a class -/
theorem Lin.sel {κ : α → Int} {B : Int → α → α → Int} (hs : Lin (fun a b : Int => sgn a b) fun _ => True) (h : ∀ k, Lin (B k) P) : Lin (fun a b => if κ a ≠ κ b then sgn (κ a) (κ b) else B (κ a) a b) P := by
 refine ⟨fun a b ha hb => ?_, fun a b ha hb => ?_, fun a b c ha hb hc => ?_⟩
 ·try dsimp only
  by_cases hz : κ a = κ b
  ·rw [if_neg (by omega), if_neg (by omega), hz]; exact (h _).anti a b ha hb
  ·rw [if_pos (by omega), if_pos (by omega)]; exact hs.anti _ _ trivial trivial
 ·try dsimp only
  split
  ·exact hs.rng _ _ trivial trivial
  ·exact (h _).rng a b ha hb
 ·try dsimp only
  have t := hs.tr (κ a) (κ b) (κ c) trivial trivial trivial
  try dsimp only at t
  by_cases h1 : κ a = κ b
  ·by_cases h3 : κ b = κ c
   ·rw [if_neg (by omega), if_neg (by omega), if_neg (by omega), ← h1]; exact (h _).tr a b c ha hb hc
   ·rw [if_neg (by omega), if_pos h3, if_pos (by omega), h1]
    intro _ k2
    have := Qai (a := κ b) (b := κ c)
    exact ⟨by omega, fun _ => by omega⟩
  ·have z1 := Qai (a := κ a) (b := κ b)
   by_cases h3 : κ b = κ c
   ·rw [if_pos h1, if_neg (by omega), if_pos (by omega), ← h3]
    intro k1 _
    exact ⟨by omega, fun _ => by omega⟩
   ·rw [if_pos h1, if_pos h3]
    intro k1 k2
    have := (t k1 k2).2 (.inl (by omega))
    have z2 := QeO.1 this
    rw [if_pos (by omega)]
    exact ⟨by omega, fun _ => this⟩
end
theorem Lin.sgn : Lin (fun a b : Int => sgn a b) fun _ => True := by
 refine ⟨fun a b _ _ => ?_, fun a b _ _ => QiX a b, fun a b c _ _ _ h1 h2 => ?_⟩
 ·unfold Sx.sgn; split <;> split <;> omega
 ·have n1 := QeO (a := a) (b := b)
  have n2 := QeO (a := b) (b := c)
  have n3 := QeO (a := a) (b := c)
  have z1 := Qai (a := a) (b := b)
  have z2 := Qai (a := b) (b := c)
  have z3 := Qai (a := a) (b := c)
  omega
def lexF {α : Type} (f : α → α → Int) : List α → List α → Int
 | [], [] => 0
 | [], _ :: _ => -1
 | _ :: _, [] => 1
 | a :: s, b :: t => if f a b ≠ 0 then f a b else lexF f s t
theorem Lin.lex {α : Type} {f : α → α → Int} {P : α → Prop} (h : Lin f P) : Lin (lexF f) (fun l => ∀ a ∈ l, P a) := by
 refine ⟨fun l => ?_, fun l => ?_, fun l => ?_⟩
 ·induction l with
  | nil => intro m _ _; cases m <;> simp [lexF]
  | cons a l ih =>
   intro m hl hm
   cases m with
   | nil => simp [lexF]
   | cons b m =>
    have ha := hl a (List.mem_cons_self ..)
    have hb := hm b (List.mem_cons_self ..)
    have e1 := h.anti a b ha hb
    have e2 := ih m (fun x hx => hl x (List.mem_cons_of_mem _ hx)) (fun x hx => hm x (List.mem_cons_of_mem _ hx))
    simp only [lexF]
    by_cases hz : f a b = 0
    ·rw [if_neg (by omega), if_neg (by omega)]; exact e2
    ·rw [if_pos (by omega), if_pos (by omega)]; exact e1
 ·induction l with
  | nil => intro m _ _; cases m <;> simp [lexF]
  | cons a l ih =>
   intro m hl hm
   cases m with
   | nil => simp [lexF]
   | cons b m =>
    simp only [lexF]
    split
    ·exact h.rng a b (hl a (List.mem_cons_self ..)) (hm b (List.mem_cons_self ..))
    ·exact ih m (fun x hx => hl x (List.mem_cons_of_mem _ hx)) (fun x hx => hm x (List.mem_cons_of_mem _ hx))
 ·induction l with
  | nil =>
   intro m n _ _ _ h1 h2
   cases n with
   | nil =>
    cases m with
    | nil => simp [lexF]
    | cons b m => simp [lexF] at h2
   | cons c n => simp [lexF]
  | cons a l ih =>
   intro m n hl hm hn
   cases m with
   | nil => intro h1; simp [lexF] at h1
   | cons b m =>
   cases n with
   | nil => intro _ h2; simp [lexF] at h2
   | cons c n =>
    have ha := hl a (List.mem_cons_self ..)
    have hb := hm b (List.mem_cons_self ..)
    have hc := hn c (List.mem_cons_self ..)
    have t := h.tr a b c ha hb hc
    have t2 := ih m n (fun x hx => hl x (List.mem_cons_of_mem _ hx)) (fun x hx => hm x (List.mem_cons_of_mem _ hx)) (fun x hx => hn x (List.mem_cons_of_mem _ hx))
    simp only [lexF]
    by_cases h1 : f a b = 0
    ·have e := h.l0 ha hb hc h1
     by_cases h3 : f b c = 0
     ·rw [if_neg (by omega), if_neg (by omega), if_neg (by omega)]; exact t2
     ·rw [if_neg (by omega), if_pos h3, if_pos (by omega)]
      intro _ k2
      exact ⟨by omega, fun _ => by omega⟩
    ·by_cases h3 : f b c = 0
     ·have e := h.r0 ha hb hc h3
      rw [if_pos h1, if_neg (by omega), if_pos (by omega)]
      intro k1 _
      exact ⟨by omega, fun _ => by omega⟩
     ·rw [if_pos h1, if_pos h3]
      intro k1 k2
      have := (t k1 k2).2 (.inl (by omega))
      rw [if_pos (by omega)]
      exact ⟨by omega, fun _ => this⟩
theorem Qhk : ∀ s t : Str, vcmpS s t = lexF (fun a b : UInt8 => sgn a.toNat b.toNat) s t
 | [], [] => rfl
 | [], _ :: _ => rfl
 | _ :: _, [] => rfl
 | a :: s, b :: t => by
  simp only [vcmpS, lexF, Qhk s t]
  by_cases h : a = b
  ·subst h; rw [QdD]; simp
  ·have : ¬ sgn a.toNat b.toNat = 0 := fun e => h (UInt8.toNat_inj.1 (by have := Qai.1 e; omega))
   rw [if_neg h, if_pos this]
theorem Lin.txt : Lin vcmpS fun _ => True := by
 have h := (Lin.sgn.comp (fun a : UInt8 => (a.toNat : Int))).lex
 have e : vcmpS = lexF (fun a b : UInt8 => Sx.sgn a.toNat b.toNat) := funext fun s => funext fun t => Qhk s t
 rw [e]
 exact h.sub fun _ _ _ _ => trivial
theorem Lin.dig : Lin cmpD fun _ => True := by
 have h := (Lin.sgn.comp (fun a : Str => (a.length : Int))).or Lin.txt
 have e : cmpD = fun a b : Str => if Sx.sgn a.length b.length ≠ 0 then Sx.sgn a.length b.length else vcmpS a b := funext fun a => funext fun b => by
  unfold cmpD
  by_cases hl : a.length = b.length
  ·rw [if_pos hl, if_neg (by rw [hl, QdD]; simp)]
  ·rw [if_neg hl, if_pos (fun e => hl (by have := Qai.1 e; omega))]
 rw [e]; exact h
theorem Lin.bigs : Lin cmpB fun _ => True := by
 have h := Lin.sel (α := Str) (P := fun _ => True) (κ := fun s => if isMin s then 0 else 1) (B := fun k a b => if k = 0 then cmpD b.tail a.tail else cmpD a b) Lin.sgn fun k => by
  by_cases hk : k = 0
  ·subst hk
   simp only [if_true]
   exact (Lin.dig.swap.comp List.tail)
  ·simp only [if_neg hk]
   exact Lin.dig
 have e : cmpB = fun a b : Str => if (if isMin a then (0 : Int) else 1) ≠ (if isMin b then 0 else 1) then Sx.sgn (if isMin a then 0 else 1) (if isMin b then 0 else 1) else (if (if isMin a then (0 : Int) else 1) = 0 then cmpD b.tail a.tail else cmpD a b) := funext fun a => funext fun b => by
  unfold cmpB
  cases ha : isMin a <;> cases hb : isMin b <;> simp [Sx.sgn]
 rw [e]; exact h
theorem Qfr : ∀ l m : List V, cmpVs l m = lexF cmpV l m
 | [], [] => rfl
 | [], _ :: _ => rfl
 | _ :: _, [] => rfl
 | v :: l, w :: m => by simp only [cmpVs, lexF, Qfr l m]
theorem Lin.vals : ∀ n : Nat, Lin cmpV fun v => vsize v ≤ n := by
 intro n
 induction n with
 | zero => exact ⟨fun a b ha => by obtain ⟨k, n, s, l⟩ := a; simp [vsize] at ha, fun a b ha => by obtain ⟨k, n, s, l⟩ := a; simp [vsize] at ha, fun a b c ha => by obtain ⟨k, n, s, l⟩ := a; simp [vsize] at ha⟩
 | succ n ih =>
  have hl : Lin (fun v w : V => cmpVs v.l w.l) fun v => vsize v ≤ n + 1 := by
   have h := (ih.lex).comp V.l
   have e : (fun v w : V => cmpVs v.l w.l) = fun v w : V => lexF cmpV v.l w.l := funext fun v => funext fun w => Qfr _ _
   rw [e]
   exact h.sub fun v hv x hx => by have := Qhx hx; omega
  have hs : Lin (fun v w : V => vcmpS v.s w.s) fun v => vsize v ≤ n + 1 := (Lin.txt.comp V.s).sub fun _ _ => trivial
  have h := Lin.sel (α := V) (P := fun v => vsize v ≤ n + 1) (κ := V.k) (B := fun k v w => if k = 3 then cmpB v.s w.s else if k = 4 then vcmpS v.s w.s else if k = 5 then cmpVs v.l w.l else if k = 6 then (if vcmpS v.s w.s ≠ 0 then vcmpS v.s w.s else cmpVs v.l w.l) else Sx.sgn v.n w.n) Lin.sgn fun k => by
   by_cases h3 : k = 3
   ·simp only [if_pos h3]; exact (Lin.bigs.comp V.s).sub fun _ _ => trivial
   simp only [if_neg h3]
   by_cases h4 : k = 4
   ·simp only [if_pos h4]; exact hs
   simp only [if_neg h4]
   by_cases h5 : k = 5
   ·simp only [if_pos h5]; exact hl
   simp only [if_neg h5]
   by_cases h6 : k = 6
   ·simp only [if_pos h6]; exact hs.or hl
   simp only [if_neg h6]
   exact (Lin.sgn.comp V.n).sub fun _ _ => trivial
  have e : cmpV = fun v w : V => if v.k ≠ w.k then Sx.sgn v.k w.k else if v.k = 3 then cmpB v.s w.s else if v.k = 4 then vcmpS v.s w.s else if v.k = 5 then cmpVs v.l w.l else if v.k = 6 then (if vcmpS v.s w.s ≠ 0 then vcmpS v.s w.s else cmpVs v.l w.l) else Sx.sgn v.n w.n := funext fun v => funext fun w => Qhq v w
  rw [e]; exact h
theorem Lin.val : Lin cmpV fun _ => True := by
 refine ⟨fun a b _ _ => ?_, fun a b _ _ => ?_, fun a b c _ _ _ => ?_⟩
 ·exact (Lin.vals (vsize a + vsize b)).anti a b (by omega) (by omega)
 ·exact (Lin.vals (vsize a + vsize b)).rng a b (by omega) (by omega)
 ·exact (Lin.vals (vsize a + vsize b + vsize c)).tr a b c (by omega) (by omega) (by omega)
theorem Lin.vs : Lin cmpVs fun _ => True := by
 have e : cmpVs = lexF cmpV := funext fun l => funext fun m => Qfr l m
 rw [e]
 exact Lin.val.lex.sub fun _ _ _ _ => trivial
theorem Lin.row : Lin cmpR fun _ => True := by
 have h := Lin.sel (α := List V) (P := fun _ => True) (κ := fun l => if mayR l then 0 else 1) (B := fun k a b => if k = 0 then cmpVs a b else 0) Lin.sgn fun k => by
  by_cases hk : k = 0
  ·simp only [if_pos hk]; exact Lin.vs
  ·simp only [if_neg hk]
   exact ⟨fun _ _ _ _ => rfl, fun _ _ _ _ => by simp, fun _ _ _ _ _ _ _ _ => by simp⟩
 have e : cmpR = fun a b : List V => if (if mayR a then (0 : Int) else 1) ≠ (if mayR b then 0 else 1) then Sx.sgn (if mayR a then 0 else 1) (if mayR b then 0 else 1) else (if (if mayR a then (0 : Int) else 1) = 0 then cmpVs a b else 0) := funext fun a => funext fun b => by
  unfold cmpR lastB
  cases ha : mayR a <;> cases hb : mayR b <;> simp [Sx.sgn]
 rw [e]; exact h
theorem QgV {a b : Str} (h : cmpD a b = 0) : a = b := by
 unfold cmpD at h
 by_cases hl : a.length = b.length
 ·rw [if_pos hl] at h; exact (vslt a b).2.1.1 h
 ·rw [if_neg hl] at h; exact absurd (Qai.1 h) (by omega)
theorem Qgb {a : Str} (h : isMin a = true) : a = 45 :: a.tail := by
 cases a with
 | nil => simp [isMin] at h
 | cons c a => simp [isMin] at h; rw [h]; rfl
theorem Qih {a b : Str} (h : cmpB a b = 0) : a = b := by
 unfold cmpB at h
 cases ha : isMin a <;> cases hb : isMin b <;> rw [ha, hb] at h
 ·exact QgV (by simpa using h)
 ·simp at h
 ·simp at h
 ·have := QgV (by simpa using h)
  rw [Qgb ha, Qgb hb, this]
theorem Qij {v w : V} (hv : formV v = true) (hw : formV w = true) (h : cmpV v w = 0) : v = w := by
 have key : ∀ n, ∀ v w : V, vsize v ≤ n → formV v = true → formV w = true → cmpV v w = 0 → v = w := by
  intro n
  induction n with
  | zero => intro v w hn; obtain ⟨k, n, s, l⟩ := v; simp [vsize] at hn
  | succ n ih =>
   intro v w hn hv hw h
   have hrow : ∀ l m : List V, (∀ x ∈ l, vsize x ≤ n) → formVs l = true → formVs m = true → cmpVs l m = 0 → l = m := by
    intro l
    induction l with
    | nil => intro m _ _ _ h; cases m with
     | nil => rfl
     | cons w m => simp [cmpVs] at h
    | cons a l ihl =>
     intro m hn hl hm h
     cases m with
     | nil => simp [cmpVs] at h
     | cons b m =>
      simp only [cmpVs] at h
      simp only [formVs, Bool.and_eq_true] at hl hm
      split at h
      ·rename_i h1; exact absurd h h1
      ·rename_i h1
       have h1 : cmpV a b = 0 := by omega
       rw [ih a b (hn a (List.mem_cons_self ..)) hl.1 hm.1 h1, ihl m (fun x hx => hn x (List.mem_cons_of_mem _ hx)) hl.2 hm.2 h]
   have hvl : ∀ x ∈ v.l, vsize x ≤ n := fun x hx => by have := Qhx hx; omega
   rw [Qfa, Bool.and_eq_true] at hv hw
   rw [Qhq] at h
   have ext : v.k = w.k → v.n = w.n → v.s = w.s → v.l = w.l → v = w := by
    intro e1 e2 e3 e4
    obtain ⟨k, n1, s, l⟩ := v
    obtain ⟨k', n1', s', l'⟩ := w
    have e1 : k = k' := e1
    have e2 : n1 = n1' := e2
    have e3 : s = s' := e3
    have e4 : l = l' := e4
    rw [e1, e2, e3, e4]
   by_cases hk : v.k = w.k
   ·rw [if_neg (by simp [hk])] at h
    rcases QbV hv.1 with ⟨e, e1, e2⟩ | ⟨e, e1, e2⟩ | ⟨e, e1, e2⟩ | ⟨e, e1, e2⟩ | ⟨e, e1, e2⟩ | ⟨e, e1⟩ <;>
    rcases QbV hw.1 with ⟨f, f1, f2⟩ | ⟨f, f1, f2⟩ | ⟨f, f1, f2⟩ | ⟨f, f1, f2⟩ | ⟨f, f1, f2⟩ | ⟨f, f1⟩ <;> try (exfalso; omega)
    ·rw [if_neg (by omega), if_neg (by omega), if_neg (by omega), if_neg (by omega)] at h
     exact ext hk (Qai.1 h) (e1.trans f1.symm) ((List.length_eq_zero_iff.1 e2).trans (List.length_eq_zero_iff.1 f2).symm)
    ·rw [if_neg (by omega), if_neg (by omega), if_neg (by omega), if_neg (by omega)] at h
     exact ext hk (Qai.1 h) (e1.trans f1.symm) ((List.length_eq_zero_iff.1 e2).trans (List.length_eq_zero_iff.1 f2).symm)
    ·rw [if_pos e] at h
     exact ext hk (e1.trans f1.symm) (Qih h) ((List.length_eq_zero_iff.1 e2).trans (List.length_eq_zero_iff.1 f2).symm)
    ·rw [if_neg (by omega), if_pos e] at h
     exact ext hk (e1.trans f1.symm) ((vslt v.s w.s).2.1.1 h) ((List.length_eq_zero_iff.1 e2).trans (List.length_eq_zero_iff.1 f2).symm)
    ·rw [if_neg (by omega), if_neg (by omega), if_pos e] at h
     exact ext hk (e1.trans f1.symm) (e2.trans f2.symm) (hrow v.l w.l hvl hv.2 hw.2 h)
    ·rw [if_neg (by omega), if_neg (by omega), if_neg (by omega), if_pos e] at h
     split at h
     ·rename_i h1; exact absurd h h1
     ·rename_i h1
      exact ext hk (e1.trans f1.symm) ((vslt v.s w.s).2.1.1 (by omega)) (hrow v.l w.l hvl hv.2 hw.2 h)
   ·rw [if_pos hk] at h; exact absurd (Qai.1 h) hk
 exact key _ v w (Nat.le_refl _) hv hw h
theorem Qf8 : ∀ {l m : List V}, mayR l = true → mayR m = true → cmpVs l m = 0 → l = m
 | [], [], _, _, _ => rfl
 | [], _ :: _, _, _, h => by simp [cmpVs] at h
 | _ :: _, [], _, _, h => by simp [cmpVs] at h
 | v :: l, w :: m, hl, hm, h => by
  simp only [cmpVs] at h
  simp only [mayR, List.all_cons, Bool.and_eq_true] at hl hm
  split at h
  ·rename_i h1; exact absurd h h1
  ·rename_i h1
   rw [Qij (Qcw hl.1) (Qcw hm.1) (by omega), Qf8 (l := l) (m := m) hl.2 hm.2 h]
theorem QgW {l m : List V} (hl : mayR l = true) (hm : mayR m = true) : cmpR l m = 0 ↔ l = m := by
 refine ⟨fun h => ?_, fun h => by rw [h]; exact Lin.row.refl trivial⟩
 unfold cmpR at h
 rw [if_pos ⟨hl, hm⟩] at h
 exact Qf8 hl hm h
end
section
open Go Go.Proofs
section
variable {α : Type} {κ : α → α → Int} {ι : α → Nat} {P : α → Prop}
/-- stands ahead; of two alike the one that was ahead -/
def Bf (κ : α → α → Int) (ι : α → Nat) (x y : α) : Prop := κ x y < 0 ∨ (κ x y = 0 ∧ ι x < ι y)
/-- what was sorted by blocks -/
inductive Ch (κ : α → α → Int) (ι : α → Nat) (bs : Nat) : List α → List α → Prop
 | last {Z L : List α} : L.length < bs → Z.Perm L → Z.Pairwise (Bf κ ι) → Ch κ ι bs Z L
 | cons {Z L Z' L' : List α} : L.length = bs → Z.Perm L → Z.Pairwise (Bf κ ι) → Ch κ ι bs Z' L' → Ch κ ι bs (Z ++ Z') (L ++ L')
theorem Ch.perm {bs : Nat} {Z L : List α} (h : Ch κ ι bs Z L) : Z.Perm L := by
 induction h with
 | last _ h _ => exact h
 | cons _ h _ _ ih => exact h.append ih
theorem Ch.all {bs : Nat} {Z L : List α} (h : Ch κ ι bs Z L) (hl : L.length ≤ bs) (h0 : 0 < bs) : Z.Pairwise (Bf κ ι) := by
 cases h with
 | last _ _ h => exact h
 | @cons Z1 L1 Z2 L2 h1 h2 h3 h4 =>
  rw [List.length_append] at hl
  have hp := h4.perm.length_eq
  have e : Z2 = [] := List.length_eq_zero_iff.1 (by rw [hp]; omega)
  rw [e, List.append_nil]; exact h3
end
end
section
open Go Go.Proofs
section
variable {α β : Type} {κ : α → α → Int} {ι : α → Nat} {P : α → Prop}
/-- of each kind the first one, rising -/
structure Rep (κ : α → α → Int) (ι : α → Nat) (L A : List α) : Prop where
 asc : A.Pairwise fun a b => κ a b < 0
 sub : ∀ y ∈ A, y ∈ L
 all : ∀ x ∈ L, ∃ y ∈ A, κ y x = 0
 fst : ∀ y ∈ A, ∀ x ∈ L, κ y x = 0 → x = y ∨ ι y < ι x
theorem Qfo (hL : Lin κ P) : ∀ {A B : List α}, A.Pairwise (fun a b => κ a b < 0) → B.Pairwise (fun a b => κ a b < 0) → (∀ x ∈ A, P x) → (∀ x, x ∈ A ↔ x ∈ B) → A = B
 | [], [], _, _, _, _ => rfl
 | [], b :: B, _, _, _, h => absurd ((h b).2 (List.mem_cons_self ..)) (by simp)
 | a :: A, [], _, _, _, h => absurd ((h a).1 (List.mem_cons_self ..)) (by simp)
 | a :: A, b :: B, hA, hB, hP, h => by
  rw [List.pairwise_cons] at hA hB
  have hab : a = b := by
   rcases List.mem_cons.1 ((h a).1 (List.mem_cons_self ..)) with e | e
   ·exact e
   rcases List.mem_cons.1 ((h b).2 (List.mem_cons_self ..)) with e2 | e2
   ·exact e2.symm
   have h1 := hB.1 a e
   have h2 := hA.1 b e2
   have := hL.anti a b (hP a (List.mem_cons_self ..)) (hP b ((h b).2 (List.mem_cons_self ..)))
   omega
  subst hab
  have hr := hL.refl (hP a (List.mem_cons_self ..))
  rw [Qfo hL hA.2 hB.2 (fun x hx => hP x (List.mem_cons_of_mem _ hx)) fun x => ⟨fun hx => ?_, fun hx => ?_⟩]
  ·rcases List.mem_cons.1 ((h x).1 (List.mem_cons_of_mem _ hx)) with e | e
   ·have := hA.1 x hx; rw [e] at this; omega
   ·exact e
  ·rcases List.mem_cons.1 ((h x).2 (List.mem_cons_of_mem _ hx)) with e | e
   ·have := hB.1 x hx; rw [e] at this; omega
   ·exact e
end
end
section
open Go Go.Proofs
def Heap.new (H H2 : Heap) : Heap := fun x => if (H x).isSome then none else H2 x
theorem Heap.new_some {H H2 : Heap} {x : Nat} {e : Bool × GO} (h : H2 x = some e) (hn : H x = none) : Heap.new H H2 x = some e := by
 unfold Heap.new; rw [hn]; exact h
theorem Heap.new_inv {H H2 : Heap} {x : Nat} {e : Bool × GO} (h : Heap.new H H2 x = some e) : H x = none ∧ H2 x = some e := by
 unfold Heap.new at h
 cases hx : H x with
 | none => rw [hx] at h; exact ⟨rfl, h⟩
 | some y => rw [hx] at h; cases h
theorem Heap.new_le (H H2 : Heap) : (Heap.new H H2).le H2 := fun x e h => (Heap.new_inv h).2
/-- a row of values that may be written over, with all that is in it: its blocks are N's; k deep at most -/
def Sp (N : Nat → Prop) (H : Heap) : Nat → Sl → Prop
 | 0, t => t.len = 0
 | k + 1, t => t.len = 0 ∨ ∃ (b : Nat) (xs : List TV) (sp : List Value), N b ∧ t.p = some (b, 0) ∧ t.x = none ∧ H b = some (true, .row (xs.flatMap Qa.c ++ sp)) ∧ (t.len ≤ xs.length ∧ xs.length ≤ 1000000) ∧ ∀ x ∈ xs, Sp N H k x.L
section
variable {N M : Nat → Prop} {H H2 : Heap}
theorem Sp.nil (k : Nat) {t : Sl} (h : t.len = 0) : Sp N H k t := by
 cases k with
 | zero => exact h
 | succ k => exact .inl h
theorem Sp.mono : ∀ {k : Nat} {t : Sl}, Sp N H k t → Sp N H (k + 1) t
 | 0, t, h => .inl h
 | k + 1, t, .inl h => .inl h
 | k + 1, t, .inr ⟨b, xs, sp, h1, h2, h3, h4, h5, h6⟩ => .inr ⟨b, xs, sp, h1, h2, h3, h4, h5, fun x hx => Sp.mono (h6 x hx)⟩
theorem Sp.up {k m : Nat} {t : Sl} (h : Sp N H k t) (hk : k ≤ m) : Sp N H m t := by
 induction hk with
 | refl => exact h
 | step _ ih => exact ih.mono
theorem Sp.to (h : ∀ b e, N b → H b = some e → M b ∧ H2 b = some e) : ∀ {k : Nat} {t : Sl}, Sp N H k t → Sp M H2 k t
 | 0, t, h0 => h0
 | k + 1, t, .inl h0 => .inl h0
 | k + 1, t, .inr ⟨b, xs, sp, h1, h2, h3, h4, h5, h6⟩ => .inr ⟨b, xs, sp, (h b _ h1 h4).1, h2, h3, (h b _ h1 h4).2, h5, fun x hx => Sp.to h (h6 x hx)⟩
theorem Sp.all : ∀ {xs : List TV}, (∀ x ∈ xs, ∃ k, Sp N H k x.L) → ∃ k, ∀ x ∈ xs, Sp N H k x.L
 | [], _ => ⟨0, fun x hx => by cases hx⟩
 | y :: xs, h => by
  obtain ⟨k, hk⟩ := h y (List.mem_cons_self ..)
  obtain ⟨m, hm⟩ := Sp.all (xs := xs) fun x hx => h x (List.mem_cons_of_mem _ hx)
  refine ⟨max k m, fun x hx => ?_⟩
  rcases List.mem_cons.1 hx with rfl | hx
  ·exact hk.up (Nat.le_max_left ..)
  ·exact (hm x hx).up (Nat.le_max_right ..)
/-- what a copy is -/
structure Made (H H2 : Heap) (l : List V) (t : Sl) : Prop where
 le : H.le H2
 row : VRow (Heap.new H H2) t l
 sp : ∃ k, Sp (fun b => H b = none) H2 k t
 cp : t.len ≤ t.cap
theorem Made.row2 {l : List V} {t : Sl} (h : Made H H2 l t) : VRow H2 t l := h.row.le (Heap.new_le _ _)
theorem Made.up {H3 : Heap} {l : List V} {t : Sl} (h : Made H H2 l t) (hle : H2.le H3) : Made H H3 l t := by
 refine ⟨h.le.trans hle, h.row.le fun x e hx => ?_, ?_, h.cp⟩
 ·obtain ⟨a, b⟩ := Heap.new_inv hx
  exact Heap.new_some (hle _ _ b) a
 ·obtain ⟨k, hk⟩ := h.sp
  exact ⟨k, hk.to fun b e h he => ⟨h, hle b e he⟩⟩
theorem Made.down {H0 : Heap} {l : List V} {t : Sl} (h : Made H H2 l t) (hle : H0.le H) : Made H0 H2 l t := by
 refine ⟨hle.trans h.le, h.row.le fun x e hx => ?_, ?_, h.cp⟩
 ·obtain ⟨a, b⟩ := Heap.new_inv hx
  exact Heap.new_some b (hle.none a)
 ·obtain ⟨k, hk⟩ := h.sp
  exact ⟨k, hk.to fun b e h he => ⟨hle.none h, he⟩⟩
theorem Made.nil {H : Heap} {t : Sl} (h : t.len = 0) : Made H H [] t := ⟨Heap.le.refl _, ⟨[], .inl rfl, by simpa using h, trivial⟩, ⟨0, h⟩, by omega⟩
theorem QeQ : ∀ l : List V, l.length ≤ vsizes l
 | [] => Nat.le_refl _
 | v :: l => by
  have := QeQ l
  have hv : vsize v = vsizes v.l + 1 := by cases v; rfl
  simp only [vsizes, List.length_cons]; omega
theorem flat4 : ∀ xs : List TV, (xs.flatMap Qa.c).length = xs.length * 4
 | [] => rfl
 | x :: xs => by rw [List.flatMap_cons, List.length_append, flat4 xs, TV.c_len, List.length_cons]; omega
theorem Qkn {t : Sl} {sp : List Value} : ∀ (xs : List TV) (i : Nat) (hi : i < xs.length), ((xs.flatMap Qa.c) ++ sp).set (i * 4 + 3) (slv t) = (xs.set i { xs[i] with L := t }).flatMap Qa.c ++ sp
 | [], i, hi => by simp at hi
 | x :: xs, 0, hi => by
  simp only [List.flatMap_cons, List.getElem_cons_zero, List.set_cons_zero]
  rfl
 | x :: xs, i + 1, hi => by
  have ih := Qkn (t := t) (sp := sp) xs i (by simpa using hi)
  simp only [List.flatMap_cons, List.set_cons_succ, List.getElem_cons_succ, List.append_assoc]
  have e : (i + 1) * 4 + 3 = (Qa.c x).length + (i * 4 + 3) := by rw [TV.c_len]; omega
  rw [← ih, e, List.set_append_right _ _ (Nat.le_add_right ..), Nat.add_sub_cancel_left]
/-- the copy's loop: what stands in the copy's block b over B -/
structure Ow (A H B : Heap) (b i : Nat) (l : List V) (xs ys : List TV) : Prop where
 le : H.le B
 ale : A.le B
 nb : B b = none
 len : ys.length = l.length
 xlen : xs.length = l.length
 old : VsAre A l xs
 rest : ∀ j, i ≤ j → ys[j]? = xs[j]?
 done : ∀ (j : Nat) (v : V) (x : TV), j < i → l[j]? = some v → ys[j]? = some x → VIs (Heap.new H B) v x ∧ ∃ k, Sp (fun c => H c = none) B k x.L
theorem Ow.step {A B B2 : Heap} {b i : Nat} {l : List V} {xs ys : List TV} {sp : List Value} {t : Sl} (h : Ow A H B b i l xs ys) (hi : i < l.length) (hi2 : i < ys.length)
 (hm : Made (B.put b (.row (ys.flatMap Qa.c ++ sp))) B2 l[i].l t) :
 Ow A H (B2.del b) b (i + 1) l xs (ys.set i { ys[i] with L := t }) ∧ B2.put b (.row (((ys.set i { ys[i] with L := t }).flatMap Qa.c) ++ sp)) = (B2.del b).put b (.row (((ys.set i { ys[i] with L := t }).flatMap Qa.c) ++ sp)) := by
 have hb : B.le (B2.del b) := fun x e hx => by
  have hne : x ≠ b := fun e' => by rw [e', h.nb] at hx; cases hx
  rw [Heap.del_ne _ hne]
  exact hm.le _ _ (by rw [Heap.put_ne _ _ _ hne]; exact hx)
 have hnn : (Heap.new H B).le (Heap.new H (B2.del b)) := fun x e hx => by
  obtain ⟨a, c⟩ := Heap.new_inv hx
  exact Heap.new_some (hb _ _ c) a
 have hPN : ∀ c, (B.put b (.row (ys.flatMap Qa.c ++ sp))) c = none → H c = none ∧ c ≠ b := fun c hc => by
  have hne : c ≠ b := fun e' => by rw [e', Heap.put_same] at hc; cases hc
  rw [Heap.put_ne _ _ _ hne] at hc
  exact ⟨h.le.none hc, hne⟩
 refine ⟨⟨h.le.trans hb, h.ale.trans hb, Heap.del_same .., by rw [List.length_set]; exact h.len, h.xlen, h.old, fun j hj => ?_, fun j v x hj hv hx => ?_⟩, ?_⟩
 ·rw [List.getElem?_set_ne (by omega)]; exact h.rest j (by omega)
 ·by_cases hji : j = i
  ·subst hji
   rw [List.getElem?_set_self hi2] at hx
   have hx := Option.some.inj hx
   rw [List.getElem?_eq_getElem hi] at hv
   have hv := Option.some.inj hv
   subst hx; subst hv
   have hxi := h.rest j (Nat.le_refl _)
   rw [List.getElem?_eq_getElem hi2] at hxi
   have hold := QcL.1 (h.old.get j _ _ (List.getElem?_eq_getElem hi) hxi.symm)
   refine ⟨QcL.2 ⟨hold.1, hold.2.1, hold.2.2.1, hm.row.le fun c e hc => ?_⟩, ?_⟩
   ·obtain ⟨a1, a2⟩ := Heap.new_inv hc
    obtain ⟨a3, a4⟩ := hPN c a1
    exact Heap.new_some (by rw [Heap.del_ne _ a4]; exact a2) a3
   ·obtain ⟨k, hk⟩ := hm.sp
    refine ⟨k, hk.to fun c e hc he => ⟨(hPN c hc).1, ?_⟩⟩
    rw [Heap.del_ne _ (hPN c hc).2]; exact he
  ·rw [List.getElem?_set_ne (by omega)] at hx
   obtain ⟨d1, k, d2⟩ := h.done j v x (by omega) hv hx
   exact ⟨d1.le hnn, k, d2.to fun c e h he => ⟨h, hb c e he⟩⟩
 ·funext x
  by_cases hx : x = b
  ·subst hx; rw [Heap.put_same, Heap.put_same]
  ·rw [Heap.put_ne _ _ _ hx, Heap.put_ne _ _ _ hx, Heap.del_ne _ hx]
theorem Ow.fin {A B : Heap} {b n cap : Nat} {l : List V} {xs ys : List TV} {sp : List Value} (h : Ow A H B b n l xs ys) (hn : n = l.length) (hb : H b = none) (hz : l.length ≤ 1000000) (hcap : n ≤ cap) :
 Made H (B.put b (.row (ys.flatMap Qa.c ++ sp))) l (Sl.of (some (b, 0)) n cap) := by
 have hBP : B.le (B.put b (.row (ys.flatMap Qa.c ++ sp))) := Heap.le_put h.nb
 have hnn : (Heap.new H B).le (Heap.new H (B.put b (.row (ys.flatMap Qa.c ++ sp)))) := fun x e hx => by
  obtain ⟨a, c⟩ := Heap.new_inv hx
  exact Heap.new_some (hBP _ _ c) a
 refine ⟨h.le.trans hBP, ⟨ys, .inr ⟨rfl, _, rfl, Qb2 (Heap.new_some (Heap.put_same ..) hb) fun j v hj => ?_⟩, ?_, VsAre.of h.len.symm fun i v x hv hx => ?_⟩, ?_, hcap⟩
 ·rw [Nat.zero_add, List.getElem?_append_left (List.getElem?_eq_some_iff.1 hj).1]; exact hj
 ·show n = _; rw [hn, h.len]
 ·exact (h.done i v x (by rw [hn]; exact (List.getElem?_eq_some_iff.1 hv).1) hv hx).1.le hnn
 ·obtain ⟨k, hk⟩ : ∃ k, ∀ x ∈ ys, Sp (fun c => H c = none) B k x.L := Sp.all fun x hx => by
   obtain ⟨j, hj, e⟩ := List.getElem_of_mem hx
   have hl : j < l.length := by rw [← h.len]; exact hj
   exact (h.done j l[j] x (by omega) (List.getElem?_eq_getElem hl) (by rw [List.getElem?_eq_getElem hj, e])).2
  refine ⟨k + 1, .inr ⟨b, ys, sp, hb, rfl, rfl, Heap.put_same .., ⟨by show n ≤ _; rw [hn, h.len]; exact Nat.le_refl _, by rw [h.len]; exact hz⟩, fun x hx => (hk x hx).to fun c e h he => ⟨h, hBP c e he⟩⟩⟩
/-- a list that grows: what is made in it stands beside its own block -/
structure Od (H B : Heap) (l : List V) (s : Sl) (ys : List TV) : Prop where
 own : OwnF H B 4 s (ys.flatMap Qa.c)
 le : ys.length ≤ l.length
 done : ∀ (j : Nat) (v : V) (x : TV), l[j]? = some v → ys[j]? = some x → VIs (Heap.new H (B.off s)) v x ∧ ∃ k, Sp (fun c => H c = none) (B.off s) k x.L
theorem Od.nil {l : List V} : Od H H l Sl.nil [] := ⟨OwnF.nil H 4, Nat.zero_le _, fun j v x _ hx => by simp at hx⟩
/-- a list of rows that grows, each a copy -/
structure Og (H B : Heap) (ls : List (List V)) (s : Sl) (ys : List Sl) : Prop where
 own : OwnF H B 1 s (ys.map slv)
 le : ys.length ≤ ls.length
 done : ∀ (j : Nat) (l : List V) (y : Sl), ls[j]? = some l → ys[j]? = some y → Made H (B.off s) l y
theorem Og.nil {ls : List (List V)} : Og H H ls Sl.nil [] := ⟨OwnF.nil H 1, Nat.zero_le _, fun j l y _ hy => by simp at hy⟩
theorem Made.off {B : Heap} {l : List V} {s t : Sl} (h : Made B H2 l t) (hle : H.le B) (hf : Fresh H s) (hs : ∀ p, s.p = some p → ∃ g, B p.1 = some (true, g)) : Made H (H2.off s) l t := by
 have hne : ∀ c, B c = none → ∀ p, s.p = some p → p.1 ≠ c := fun c hc p hp e => by
  obtain ⟨g, hg⟩ := hs p hp
  rw [e, hc] at hg; cases hg
 refine ⟨Heap.le_off (hle.trans h.le) hf, h.row.le fun c e hc => ?_, ?_, h.cp⟩
 ·obtain ⟨a, b⟩ := Heap.new_inv hc
  exact Heap.new_some (Heap.off_some b (hne c a)) (hle.none a)
 ·obtain ⟨k, hk⟩ := h.sp
  exact ⟨k, hk.to fun c e hc he => ⟨hle.none hc, Heap.off_some he (hne c hc)⟩⟩
theorem Og.step {B B2 B4 : Heap} {ls : List (List V)} {s r t : Sl} {ys : List Sl} (h : Og H B ls s ys) (hi : ys.length < ls.length) (hm : Made B B2 ls[ys.length] t) (h4 : OwnF (B2.off s) B4 1 r (ys.map slv ++ [slv t])) : Og H B4 ls r (ys ++ [t]) := by
 have hoff : H.le (B2.off s) := Heap.le_off (h.own.le.trans hm.le) h.own.fresh
 have h34 : (B2.off s).le (B4.off r) := Heap.le_off h4.le h4.fresh
 have h12 : (B.off s).le (B2.off s) := Heap.le_off ((Heap.off_le s B).trans hm.le) (Heap.off_fresh s B)
 refine ⟨?_, by rw [List.length_append]; exact hi, fun j l y hl hy => ?_⟩
 ·have e : (ys ++ [t]).map slv = ys.map slv ++ [slv t] := by simp
  rw [e]; exact h4.down hoff
 ·by_cases hj : j < ys.length
  ·rw [List.getElem?_append_left hj] at hy
   exact (h.done j l y hl hy).up (h12.trans h34)
  ·have hjl := (List.getElem?_eq_some_iff.1 hy).1
   rw [List.length_append, List.length_singleton] at hjl
   have hje : j = ys.length := by omega
   subst hje
   rw [List.getElem?_append_right (Nat.le_refl _), Nat.sub_self] at hy
   simp only [List.getElem?_cons_zero, Option.some.injEq] at hy
   rw [List.getElem?_eq_getElem hi] at hl
   have hl := Option.some.inj hl
   subst hy; subst hl
   exact (hm.off h.own.le h.own.fresh fun p hp => h.own.own.mine hp).up h34
/-- rows in order, each once, in memory of their own -/
structure Srt (H H2 : Heap) (ls : List (List V)) (t : Sl) (A : List (Sl × (List V × Nat))) : Prop where
 own : OwnF H H2 1 t (A.map fun e => slv e.1)
 row : ∀ e ∈ A, Made H (H2.off t) e.2.1 e.1
 rep : Rep (fun a b => cmpR a.1 b.1) (fun a => a.2) ls.zipIdx (A.map fun e => e.2)
 few : A.length ≤ ls.length
end
end
section
open Go Go.Proofs
section
variable {C : Ctx} {H : Heap}
theorem Qjg {t : Sl} {xs : List TV} {K : Sl → Heap → Prop} (hr : rdsl H t (xs.flatMap Qa.c)) (hl : t.len = xs.length) (h0 : t.len ≠ 0) (hs : t.len ≤ 1000000)
 (k : ∀ b sp cap B, H.le B → B b = none → t.len ≤ cap → K (Sl.of (some (b, 0)) t.len cap) (B.put b (.row (xs.flatMap Qa.c ++ sp)))) : QC C t K H := by
 apply Qa2
 unfold QX
 have hf := flat4 xs
 have hnil : Sl.isNil t = false := by
  rcases hr with h | ⟨hx, p, hp, _⟩
  ·rw [h] at hf; simp at hf; omega
  ·unfold Sl.isNil; rw [hp]; rfl
 refine Qi hnil ?_
 intro b2 n2
 have hle := Heap.le_put n2 (g := .row []) (m := true)
 refine ⟨xs.flatMap Qa.c, QcX hle hr, ?_, [], .inl rfl, ?_, ?_, ?_, ?_, fun hfit => ?_, fun hgrow b cap hb hcap => ?_⟩
 ·intro u hu
  obtain ⟨x, _, hx⟩ := List.mem_flatMap.1 hu
  simp only [Qa.c, List.mem_cons, List.not_mem_nil, or_false] at hx
  rcases hx with rfl | rfl | rfl | rfl <;> rfl
 ·rfl
 ·rw [hf, hl]; rfl
 ·show (0 + t.len) * 56 ≤ _; omega
 ·show 0 + t.len ≤ _; omega
 ·exfalso
  have : 0 + t.len ≤ 0 := hfit
  omega
 ·have e : (0 : Nat) + t.len = t.len := Nat.zero_add _
  have hc2 : 0 + t.len ≤ cap := hcap
  have := k b (zeros (Qa.c Qa.zero) (cap - (0 + t.len))) cap _ hle hb (by omega)
  show K (Sl.of (some (b, 0)) (0 + t.len) cap) _
  rw [e] at this ⊢
  exact this
end
end
section
open Go
def hexD (k : Nat) : UInt8 := if k < 10 then UInt8.ofNat (48 + k) else UInt8.ofNat (87 + k)
def qC (c : UInt8) : Str :=
 if c = 34 ∨ c = 92 then [92, c] else if c = 10 then [92, 110] else if c = 9 then [92, 116]
 else if 32 ≤ c.toNat ∧ c.toNat ≤ 126 then [c] else [92, 120, hexD (c.toNat / 16), hexD (c.toNat % 16)]
def quoteS (s : Str) : Str := 34 :: (s.flatMap qC ++ [34])
mutual
def showV : V → Str
 | .mk k n s l => if k = 1 then (if n = 1 then trueS else falseS) else if k = 2 then Lib.itoa n else if k = 3 then s ++ [98] else if k = 4 then quoteS s
  else if k = 5 then 40 :: (showR true l ++ [41]) else s ++ (if l.length = 0 then [] else 40 :: (showR true l ++ [41]))
def showR : Bool → List V → Str
 | _, [] => []
 | f, v :: l => (if f then [] else [44, 32]) ++ (showV v ++ showR false l)
end
theorem Qgi : ∀ (l : List V) (f : Bool) (v : V), showR f (l ++ [v]) = showR f l ++ ((if f && l.isEmpty then [] else [44, 32]) ++ showV v)
 | [], f, v => by cases f <;> simp [showR]
 | w :: l, f, v => by
  rw [List.cons_append]
  simp only [showR, Qgi l false v, List.isEmpty_cons, Bool.and_false, Bool.false_and, Bool.false_eq_true, if_false, List.append_assoc]
theorem QeZ : ∀ (a b : List V) (f : Bool), showR f (a ++ b) = showR f a ++ showR (f && a.isEmpty) b
 | [], b, f => by simp [showR]
 | v :: a, b, f => by
  rw [List.cons_append]
  simp only [showR, QeZ a b false, List.isEmpty_cons, Bool.and_false, Bool.false_and, List.append_assoc]
theorem QiY (l : List V) (i : Nat) : (showR true (l.take i)).length ≤ (showR true l).length := by
 have := congrArg List.length (QeZ (l.take i) (l.drop i) true)
 rw [List.take_append_drop, List.length_append] at this
 omega
theorem Qia {l : List V} {i : Nat} (h : i < l.length) : showR true (l.take (i + 1)) = showR true (l.take i) ++ ((if i = 0 then [] else [44, 32]) ++ showV l[i]) := by
 rw [List.take_add_one, List.getElem?_eq_getElem h, Option.toList_some, Qgi]
 congr 2
 have e : (l.take i).isEmpty = decide (i = 0) := by
  rw [Bool.eq_iff_iff, List.isEmpty_iff, decide_eq_true_iff]
  refine ⟨fun h2 => ?_, fun h2 => by rw [h2]; rfl⟩
  have := congrArg List.length h2
  rw [List.length_take, List.length_nil] at this; omega
 rw [Bool.true_and, e]
 by_cases hi : i = 0 <;> simp [hi]
theorem QcT {n : Nat} (h : n < 256) : (UInt8.ofNat n).toNat = n := by rw [UInt8.toNat_ofNat']; omega
def valN (l : Str) : Nat := l.foldl (fun a c => 10 * a + (c.toNat - 48)) 0
theorem QjI (u : Nat) : valN (Lib.decDigits u) = u := by
 induction u using Nat.strongRecOn with
 | _ u ih =>
  rw [Lib.decDigits]
  split
  ·rename_i h
   have := QcT (n := 48 + u) (by omega)
   simp only [valN, List.foldl_cons, List.foldl_nil, this]; omega
  ·rename_i h
   have e := ih (u / 10) (by omega)
   have := QcT (n := 48 + u % 10) (by omega)
   unfold valN at e ⊢
   rw [List.foldl_append, e]
   simp only [List.foldl_cons, List.foldl_nil, this]; omega
theorem QhE (u : Nat) : (∀ c ∈ Lib.decDigits u, digC c = true) ∧ Lib.decDigits u ≠ [] := by
 induction u using Nat.strongRecOn with
 | _ u ih =>
  rw [Lib.decDigits]
  split
  ·rename_i h
   refine ⟨fun c hc => ?_, by simp⟩
   rw [List.mem_singleton] at hc
   subst hc
   have := QcT (n := 48 + u) (by omega)
   unfold digC
   rw [this]
   simp only [Bool.and_eq_true, decide_eq_true_eq]; omega
  ·rename_i h
   refine ⟨fun c hc => ?_, by simp⟩
   rw [List.mem_append, List.mem_singleton] at hc
   rcases hc with hc | rfl
   ·exact (ih (u / 10) (by omega)).1 c hc
   ·have := QcT (n := 48 + u % 10) (by omega)
    unfold digC
    rw [this]
    simp only [Bool.and_eq_true, decide_eq_true_eq]; omega
theorem QjH {u v : Nat} (h : Lib.decDigits u = Lib.decDigits v) : u = v := by rw [← QjI u, h, QjI v]
theorem Qjk {m n : Int} (h : Lib.itoa m = Lib.itoa n) : m = n := by
 have ne : ∀ u v : Nat, (45 : UInt8) :: Lib.decDigits u ≠ Lib.decDigits v := fun u v e => by
  have := (QhE v).1 45 (by rw [← e]; exact List.mem_cons_self ..)
  exact absurd this (by decide)
 unfold Lib.itoa at h
 split at h <;> split at h
 ·injection h with _ h
  have := QjH h; omega
 ·exact absurd h (ne _ _)
 ·exact absurd h.symm (ne _ _)
 ·have := QjH h; omega
theorem Qgy {n : Int} {c : UInt8} (h : c ∈ Lib.itoa n) : digC c = true ∨ c = 45 := by
 unfold Lib.itoa at h
 split at h
 ·rcases List.mem_cons.1 h with h | h
  ·exact .inr h
  ·exact .inl ((QhE _).1 c h)
 ·exact .inl ((QhE _).1 c h)
theorem Qiv (n : Int) : Lib.itoa n ≠ [] := by
 unfold Lib.itoa
 split
 ·simp
 ·exact (QhE _).2
theorem Qiu (n : Int) : (Lib.itoa n).getLast? ≠ some 98 := fun h => by
 have hm := List.mem_of_getLast? h
 rcases Qgy hm with h | h
 ·exact absurd h (by decide)
 ·exact absurd h (by decide)
def stopC (c : UInt8) : Bool := c == 40 || c == 41 || c == 44 || c == 59 || c == 34
def tok : V → Str
 | .mk k n s l => if k = 1 then (if n = 1 then trueS else falseS) else if k = 2 then Lib.itoa n else if k = 3 then s ++ [98] else if k = 5 then [] else s
def rst : V → Str
 | .mk k n s l => if k = 5 ∨ (k = 6 ∧ l.length ≠ 0) then 40 :: (showR true l ++ [41]) else []
def kindT (t : Str) : Int := if t = [] then 5 else if lowC (t.headD 0) = true then (if t = trueS ∨ t = falseS then 1 else 6) else if t.getLast? = some 98 then 3 else 2
theorem QdB {v : V} (h : formV v = true) : formVs v.l = true ∧ ((v.k = 1 ∧ (v.n = 0 ∨ v.n = 1) ∧ v.s = [] ∧ v.l = []) ∨ (v.k = 2 ∧ v.s = [] ∧ v.l = []) ∨ (v.k = 3 ∧ numS v.s = true ∧ v.n = 0 ∧ v.l = []) ∨ (v.k = 4 ∧ v.n = 0 ∧ v.l = []) ∨
 (v.k = 5 ∧ v.n = 0 ∧ v.s = []) ∨ (v.k = 6 ∧ v.n = 0 ∧ namesS v.s = true)) := by
 rw [Qfa, Bool.and_eq_true] at h
 obtain ⟨h, h2⟩ := h
 refine ⟨h2, ?_⟩
 unfold okN at h
 split at h
 ·rename_i hk
  simp only [Bool.and_eq_true, Bool.or_eq_true, beq_iff_eq, List.isEmpty_iff, decide_eq_true_eq, List.length_eq_zero_iff] at h
  exact .inl ⟨hk, h.1.1, h.1.2, h.2⟩
 split at h
 ·rename_i hk
  simp only [Bool.and_eq_true, beq_iff_eq, List.isEmpty_iff, decide_eq_true_eq, List.length_eq_zero_iff] at h
  exact .inr (.inl ⟨hk, h.1, h.2⟩)
 split at h
 ·rename_i hk
  simp only [Bool.and_eq_true, beq_iff_eq, decide_eq_true_eq, List.length_eq_zero_iff] at h
  exact .inr (.inr (.inl ⟨hk, h.1.1, h.1.2, h.2⟩))
 split at h
 ·rename_i hk
  simp only [Bool.and_eq_true, beq_iff_eq, decide_eq_true_eq, List.length_eq_zero_iff] at h
  exact .inr (.inr (.inr (.inl ⟨hk, h.1, h.2⟩)))
 split at h
 ·rename_i hk
  simp only [Bool.and_eq_true, beq_iff_eq, List.isEmpty_iff] at h
  exact .inr (.inr (.inr (.inr (.inl ⟨hk, h.1.1, h.1.2⟩))))
 split at h
 ·rename_i hk
  simp only [Bool.and_eq_true, beq_iff_eq] at h
  exact .inr (.inr (.inr (.inr (.inr ⟨hk, h.1, h.2⟩))))
 ·cases h
theorem QgH {v : V} (h : formV v = true) (h4 : v.k ≠ 4) : showV v = tok v ++ rst v := by
 have hc := (QdB h).2
 obtain ⟨k, n, s, l⟩ := v
 simp only [V.k, V.n, V.s, V.l] at hc h4
 simp only [showV, tok, rst]
 rcases hc with ⟨rfl, _, _, rfl⟩ | ⟨rfl, _, rfl⟩ | ⟨rfl, _, _, rfl⟩ | ⟨rfl, _⟩ | ⟨rfl, _⟩ | ⟨rfl, _⟩
 ·simp
 ·simp
 ·simp
 ·exact absurd rfl h4
 ·simp
 ·by_cases hl : l.length = 0 <;> simp [hl]
theorem QdA {c : UInt8} (h : nameC c = true) : stopC c = false := by
 simp only [nameC, lowC, Bool.or_eq_true, Bool.and_eq_true, decide_eq_true_eq] at h
 unfold stopC
 simp only [Bool.or_eq_false_iff, beq_eq_false_iff_ne]
 refine ⟨⟨⟨⟨?_, ?_⟩, ?_⟩, ?_⟩, ?_⟩ <;> (rintro rfl; revert h; decide)
theorem Qio {c : UInt8} (h : digC c = true) : stopC c = false := QdA (by
 simp only [digC, Bool.and_eq_true, decide_eq_true_eq] at h
 simp only [nameC, Bool.or_eq_true, Bool.and_eq_true, decide_eq_true_eq]
 exact .inl (.inr h))
theorem Qd3 {s : Str} (h : nameS s = true) : s ≠ [] ∧ s.length ≤ 32 ∧ lowC (s.headD 0) = true ∧ ∀ c ∈ s, nameC c = true := by
 simp only [nameS, Bool.and_eq_true, Bool.not_eq_true', List.isEmpty_eq_false_iff, decide_eq_true_eq, List.all_eq_true] at h
 exact ⟨h.1.1.1, h.1.1.2, h.1.2, h.2⟩
theorem Qdh {s : Str} (h : namesS s = true) : s ≠ trueS ∧ s ≠ falseS ∧ s ≠ [] ∧ s.length ≤ 65 ∧ lowC (s.headD 0) = true ∧ ∀ c ∈ s, stopC c = false := by
 unfold namesS at h
 split at h
 ·cases h
 rename_i hne
 refine ⟨fun e => hne (.inl e), fun e => hne (.inr e), ?_⟩
 split at h
 ·rename_i a b hab
  rw [Bool.and_eq_true] at h
  obtain ⟨h1, h2, h3, h4⟩ := Qd3 h.1
  obtain ⟨g1, g2, g3, g4⟩ := Qd3 h.2
  have hs : s = a ++ 46 :: b := by
   by_cases hm : (46 : UInt8) ∈ s
   ·obtain ⟨x, y, e1, e2⟩ := Qgw s hm
    rw [e1, Qgv x y e2] at hab
    injection hab with hab; injection hab with e3 e4
    rw [e1, e3, e4]
   ·rw [Qgx s hm] at hab; cases hab
  rw [hs]
  refine ⟨by simp, by rw [List.length_append, List.length_cons]; omega, ?_, fun c hc => ?_⟩
  ·cases a with
   | nil => exact absurd rfl h1
   | cons x a => exact h3
  ·rw [List.mem_append, List.mem_cons] at hc
   rcases hc with hc | rfl | hc
   ·exact QdA (h4 c hc)
   ·rfl
   ·exact QdA (g4 c hc)
 ·obtain ⟨h1, h2, h3, h4⟩ := Qd3 h
  exact ⟨h1, by omega, h3, fun c hc => QdA (h4 c hc)⟩
theorem QeJ {s : Str} (h : numS s = true) : s ≠ [] ∧ (∀ c ∈ s, digC c = true ∨ c = 45) ∧ s.length ≤ digits s + 1 := by
 simp only [numS, Bool.and_eq_true, Bool.not_eq_true', List.isEmpty_eq_false_iff, List.all_eq_true] at h
 obtain ⟨⟨h1, h2⟩, h3⟩ := h
 unfold digits
 unfold unmin at h1 h2 ⊢
 split at h1
 ·rename_i hh
  rw [if_pos hh] at h2 ⊢
  cases s with
  | nil => cases hh
  | cons c s =>
   simp only [List.head?_cons, Option.some.injEq] at hh
   subst hh
   refine ⟨by simp, fun d hd => ?_, by simp⟩
   rcases List.mem_cons.1 hd with rfl | hd
   ·exact .inr rfl
   ·exact .inl (h2 d hd)
 ·rename_i hh
  rw [if_neg hh] at h2 ⊢
  exact ⟨h1, fun d hd => .inl (h2 d hd), by omega⟩
theorem Qej {c : UInt8} (h : digC c = true ∨ c = 45) : stopC c = false ∧ lowC c = false := by
 rcases h with h | rfl
 ·refine ⟨Qio h, ?_⟩
  simp only [digC, Bool.and_eq_true, decide_eq_true_eq] at h
  simp only [lowC, Bool.and_eq_false_iff, decide_eq_false_iff_not]; omega
 ·exact ⟨rfl, rfl⟩
theorem Qiq : ∀ {s : Str}, s ≠ [] → s.headD 0 ∈ s
 | [], h => absurd rfl h
 | c :: s, _ => List.mem_cons_self ..
theorem QgL {v : V} (h : formV v = true) (h4 : v.k ≠ 4) : ∀ c ∈ tok v, stopC c = false := by
 have hc := (QdB h).2
 obtain ⟨k, n, s, l⟩ := v
 simp only [V.k, V.n, V.s, V.l] at hc h4
 intro c hm
 simp only [tok] at hm
 rcases hc with ⟨rfl, _, _, rfl⟩ | ⟨rfl, _, rfl⟩ | ⟨rfl, hn, _, rfl⟩ | ⟨rfl, _⟩ | ⟨rfl, _⟩ | ⟨rfl, _, hn⟩
 ·rw [if_pos rfl] at hm
  split at hm
  ·exact (by decide : ∀ c ∈ trueS, stopC c = false) c hm
  ·exact (by decide : ∀ c ∈ falseS, stopC c = false) c hm
 ·exact (Qej (Qgy (by simpa using hm))).1
 ·have hm : c ∈ s ∨ c = 98 := by simpa using hm
  rcases hm with hm | rfl
  ·exact (Qej ((QeJ hn).2.1 c hm)).1
  ·rfl
 ·exact absurd rfl h4
 ·simp at hm
 ·exact (Qdh hn).2.2.2.2.2 c (by simpa using hm)
theorem QgA {v : V} (h : formV v = true) (h4 : v.k ≠ 4) : kindT (tok v) = v.k := by
 have hc := (QdB h).2
 obtain ⟨k, n, s, l⟩ := v
 simp only [V.k, V.n, V.s, V.l] at hc h4 ⊢
 simp only [tok]
 rcases hc with ⟨rfl, hn, rfl, rfl⟩ | ⟨rfl, _, rfl⟩ | ⟨rfl, hn, _, rfl⟩ | ⟨rfl, _⟩ | ⟨rfl, _⟩ | ⟨rfl, _, hn⟩
 ·rcases hn with rfl | rfl <;> decide
 ·have e : (if (2 : Int) = 1 then (if n = 1 then trueS else falseS) else if (2 : Int) = 2 then Lib.itoa n else if (2 : Int) = 3 then s ++ [98] else if (2 : Int) = 5 then [] else s) = Lib.itoa n := by simp
  rw [e]
  unfold kindT
  have hlow := (Qej (Qgy (Qiq (Qiv n)))).2
  rw [if_neg (Qiv n), if_neg (by rw [hlow]; decide), if_neg (Qiu n)]
 ·have e : (if (3 : Int) = 1 then (if n = 1 then trueS else falseS) else if (3 : Int) = 2 then Lib.itoa n else if (3 : Int) = 3 then s ++ [98] else if (3 : Int) = 5 then [] else s) = s ++ [98] := by simp
  rw [e]
  obtain ⟨q1, q2, _⟩ := QeJ hn
  have hlow : lowC ((s ++ [98]).headD 0) = false := by
   cases s with
   | nil => exact absurd rfl q1
   | cons c s => exact (Qej (q2 c (List.mem_cons_self ..))).2
  unfold kindT
  rw [if_neg (by simp), if_neg (by rw [hlow]; decide), if_pos (by simp)]
 ·exact absurd rfl h4
 ·simp [kindT]
 ·have e : (if (6 : Int) = 1 then (if n = 1 then trueS else falseS) else if (6 : Int) = 2 then Lib.itoa n else if (6 : Int) = 3 then s ++ [98] else if (6 : Int) = 5 then [] else s) = s := by simp
  rw [e]
  obtain ⟨q1, q2, q3, _, q5, _⟩ := Qdh hn
  unfold kindT
  rw [if_neg q3, if_pos q5, if_neg (fun h => h.elim q1 q2)]
theorem Qhi : ∀ {a b x y : Str}, (∀ c ∈ a, stopC c = false) → (∀ c ∈ b, stopC c = false) → (x = [] ∨ ∃ c t, x = c :: t ∧ stopC c = true) → (y = [] ∨ ∃ c t, y = c :: t ∧ stopC c = true) → a ++ x = b ++ y → a = b ∧ x = y
 | [], [], x, y, _, _, _, _, e => ⟨rfl, e⟩
 | [], d :: b, x, y, _, hb, hx, _, e => by
  rcases hx with rfl | ⟨c, t, rfl, hc⟩
  ·simp at e
  ·injection e with e1 _
   rw [e1, hb d (List.mem_cons_self ..)] at hc; cases hc
 | d :: a, [], x, y, ha, _, _, hy, e => by
  rcases hy with rfl | ⟨c, t, rfl, hc⟩
  ·simp at e
  ·injection e with e1 _
   rw [← e1, ha d (List.mem_cons_self ..)] at hc; cases hc
 | c :: a, d :: b, x, y, ha, hb, hx, hy, e => by
  injection e with e1 e2
  obtain ⟨q1, q2⟩ := Qhi (fun c hc => ha c (List.mem_cons_of_mem _ hc)) (fun c hc => hb c (List.mem_cons_of_mem _ hc)) hx hy e2
  exact ⟨by rw [e1, q1], q2⟩
theorem Qj0 : ∀ k : Fin 16, hexD k.val ≠ 34 ∧ ∀ j : Fin 16, hexD k.val = hexD j.val → k = j := by decide
theorem QhH {i j : Nat} (hi : i < 16) (hj : j < 16) (h : hexD i = hexD j) : i = j := by
 have := (Qj0 ⟨i, hi⟩).2 ⟨j, hj⟩ h
 exact congrArg Fin.val this
theorem Qfb (c : UInt8) : ((c = 34 ∨ c = 92) ∧ qC c = [92, c]) ∨ (c = 10 ∧ qC c = [92, 110]) ∨ (c = 9 ∧ qC c = [92, 116]) ∨ (c ≠ 34 ∧ c ≠ 92 ∧ qC c = [c]) ∨ qC c = [92, 120, hexD (c.toNat / 16), hexD (c.toNat % 16)] := by
 unfold qC
 by_cases h1 : c = 34 ∨ c = 92
 ·rw [if_pos h1]; exact .inl ⟨h1, rfl⟩
 rw [if_neg h1]
 by_cases h2 : c = 10
 ·rw [if_pos h2]; exact .inr (.inl ⟨h2, rfl⟩)
 rw [if_neg h2]
 by_cases h3 : c = 9
 ·rw [if_pos h3]; exact .inr (.inr (.inl ⟨h3, rfl⟩))
 rw [if_neg h3]
 split
 ·exact .inr (.inr (.inr (.inl ⟨fun e => h1 (.inl e), fun e => h1 (.inr e), rfl⟩)))
 ·exact .inr (.inr (.inr (.inr rfl)))
theorem Qi4 {c d : UInt8} (h : c.toNat = d.toNat) : c = d := UInt8.toNat_inj.1 h
theorem Qkm {c d : UInt8} {x y : Str} (h : qC c ++ x = qC d ++ y) : c = d ∧ x = y := by
 rcases Qfb c with ⟨hc, e⟩ | ⟨hc, e⟩ | ⟨hc, e⟩ | ⟨hc, hc2, e⟩ | e <;> rcases Qfb d with ⟨hd, f⟩ | ⟨hd, f⟩ | ⟨hd, f⟩ | ⟨hd, hd2, f⟩ | f <;> rw [e, f] at h <;> simp only [List.cons_append, List.nil_append, List.cons.injEq] at h
 case inr.inr.inr.inr.inr.inr.inr.inr =>
  obtain ⟨_, _, h1, h2, h3⟩ := h
  have hc := c.toNat_lt; have hd := d.toNat_lt
  have := QhH (by omega) (by omega) h1
  have := QhH (by omega) (by omega) h2
  exact ⟨Qi4 (by omega), h3⟩
 case inl.inl => exact ⟨h.2.1, h.2.2⟩
 case inr.inr.inr.inl.inr.inr.inr.inl => exact h
 case inr.inl.inr.inl => exact ⟨by rw [hc, hd], h.2.2⟩
 case inr.inr.inl.inr.inr.inl => exact ⟨by rw [hc, hd], h.2.2⟩
 all_goals exfalso
 all_goals first
  | (obtain ⟨_, h1, _⟩ := h; subst_vars; simp_all; done)
  | (obtain ⟨h1, _⟩ := h; subst_vars; simp_all; done)
  | (obtain ⟨_, h1, _⟩ := h; rcases hc with rfl | rfl <;> simp_all; done)
  | (obtain ⟨_, h1, _⟩ := h; rcases hd with rfl | rfl <;> simp_all; done)
theorem QiP (c : UInt8) : ∃ d t, qC c = d :: t ∧ d ≠ 34 := by
 rcases Qfb c with ⟨_, e⟩ | ⟨_, e⟩ | ⟨_, e⟩ | ⟨h, _, e⟩ | e
 ·exact ⟨_, _, e, by decide⟩
 ·exact ⟨_, _, e, by decide⟩
 ·exact ⟨_, _, e, by decide⟩
 ·exact ⟨_, _, e, h⟩
 ·exact ⟨_, _, e, by decide⟩
theorem QjP : ∀ {s t x y : Str}, s.flatMap qC ++ 34 :: x = t.flatMap qC ++ 34 :: y → s = t ∧ x = y
 | [], [], x, y, h => ⟨rfl, by injection h⟩
 | [], d :: t, x, y, h => by
  obtain ⟨e, u, h1, h2⟩ := QiP d
  rw [List.flatMap_cons, h1] at h
  injection h with h _
  exact absurd h.symm h2
 | c :: s, [], x, y, h => by
  obtain ⟨e, u, h1, h2⟩ := QiP c
  rw [List.flatMap_cons, h1] at h
  injection h with h _
  exact absurd h h2
 | c :: s, d :: t, x, y, h => by
  rw [List.flatMap_cons, List.flatMap_cons, List.append_assoc, List.append_assoc] at h
  obtain ⟨h1, h2⟩ := Qkm h
  obtain ⟨h3, h4⟩ := QjP h2
  exact ⟨by rw [h1, h3], h4⟩
def EndS (r : Str) : Prop := r = [] ∨ ∃ c t, r = c :: t ∧ (c = 41 ∨ c = 44 ∨ c = 59)
theorem EndS.stop {r : Str} (h : EndS r) : r = [] ∨ ∃ c t, r = c :: t ∧ stopC c = true := h.imp id fun ⟨c, t, e, hc⟩ => ⟨c, t, e, by rcases hc with rfl | rfl | rfl <;> rfl⟩
theorem EndS.ne40 {r t : Str} (h : EndS r) : r ≠ 40 :: t := fun e => by
 rcases h with rfl | ⟨c, t', rfl, hc⟩
 ·cases e
 ·injection e with e _; subst e; revert hc; decide
theorem Qew {v : V} (h : formV v = true) : ∃ c t, showV v = c :: t ∧ c ≠ 41 ∧ (v.k ≠ 4 → c ≠ 34) := by
 by_cases h4 : v.k = 4
 ·obtain ⟨k, n, s, l⟩ := v
  simp only [V.k] at h4
  subst h4
  exact ⟨34, s.flatMap qC ++ [34], by simp [showV, quoteS], by decide, fun h => absurd rfl h⟩
 ·rw [QgH h h4]
  have hf := QgL h h4
  cases ht : tok v with
  | cons c t =>
   have := hf c (by rw [ht]; exact List.mem_cons_self ..)
   exact ⟨c, t ++ rst v, rfl, (fun e => by rw [e] at this; cases this), (fun _ e => by rw [e] at this; cases this)⟩
  | nil =>
   have hk := QgA h h4
   rw [ht] at hk
   have hk : v.k = 5 := hk.symm
   obtain ⟨k, n, s, l⟩ := v
   simp only [V.k] at hk
   subst hk
   exact ⟨40, showR true l ++ [41], by simp [rst], by decide, fun _ => by decide⟩
theorem QhU (v : V) (r : Str) (hr : EndS r) : rst v ++ r = [] ∨ ∃ c t, rst v ++ r = c :: t ∧ stopC c = true := by
 obtain ⟨k, n, s, l⟩ := v
 simp only [rst]
 split
 ·exact .inr ⟨40, _, rfl, rfl⟩
 ·exact hr.stop
theorem Qhc : ∀ (l : List V), (∀ v ∈ l, ∀ (w : V) (r r' : Str), formV v = true → formV w = true → EndS r → EndS r' → showV v ++ r = showV w ++ r' → v = w ∧ r = r') →
 ∀ (f : Bool) (l' : List V) (r r' : Str), formVs l = true → formVs l' = true → showR f l ++ 41 :: r = showR f l' ++ 41 :: r' → l = l' ∧ r = r'
 | [], _, f, [], r, r', _, _, e => ⟨rfl, by simpa [showR] using e⟩
 | [], _, f, w :: l', r, r', _, h2, e => by
  exfalso
  simp only [formVs, Bool.and_eq_true] at h2
  obtain ⟨c, t, hw, hc, _⟩ := Qew h2.1
  simp only [showR, List.nil_append] at e
  cases f with
  | true =>
   rw [hw] at e
   simp only [if_true, List.nil_append, List.cons_append, List.cons.injEq] at e
   exact hc e.1.symm
  | false => simp at e
 | v :: l, _, f, [], r, r', h1, _, e => by
  exfalso
  simp only [formVs, Bool.and_eq_true] at h1
  obtain ⟨c, t, hw, hc, _⟩ := Qew h1.1
  simp only [showR, List.nil_append] at e
  cases f with
  | true =>
   rw [hw] at e
   simp only [if_true, List.nil_append, List.cons_append, List.cons.injEq] at e
   exact hc e.1
  | false => simp at e
 | v :: l, ih, f, w :: l', r, r', h1, h2, e => by
  simp only [formVs, Bool.and_eq_true] at h1 h2
  simp only [showR, List.append_assoc] at e
  have e := List.append_cancel_left e
  have hend : ∀ (l : List V) (r : Str), EndS (showR false l ++ 41 :: r) := fun l r => by
   cases l with
   | nil => exact .inr ⟨41, r, rfl, .inl rfl⟩
   | cons x l => exact .inr ⟨44, _, rfl, .inr (.inl rfl)⟩
  obtain ⟨q1, q2⟩ := ih v (List.mem_cons_self ..) w _ _ h1.1 h2.1 (hend l r) (hend l' r') e
  obtain ⟨q3, q4⟩ := Qhc l (fun v hv => ih v (List.mem_cons_of_mem _ hv)) false l' r r' h1.2 h2.2 q2
  exact ⟨by rw [q1, q3], q4⟩
theorem QjB (v : V) : ∀ (w : V) (r r' : Str), formV v = true → formV w = true → EndS r → EndS r' → showV v ++ r = showV w ++ r' → v = w ∧ r = r' := by
 refine V.rec_ (P := fun v => ∀ (w : V) (r r' : Str), formV v = true → formV w = true → EndS r → EndS r' → showV v ++ r = showV w ++ r' → v = w ∧ r = r') (fun v ih w r r' hv hw hr hr' e => ?_) v
 have hcv := QdB hv
 have hcw := QdB hw
 by_cases h4 : v.k = 4
 ·by_cases k4 : w.k = 4
  ·obtain ⟨k, n, s, l⟩ := v
   obtain ⟨k', n', s', l'⟩ := w
   simp only [V.k, V.n, V.s, V.l] at *
   subst h4; subst k4
   obtain ⟨_, rfl, rfl⟩ : (4 : Int) = 4 ∧ n = 0 ∧ l = [] := by rcases hcv.2 with ⟨h, _⟩ | ⟨h, _⟩ | ⟨h, _⟩ | h | ⟨h, _⟩ | ⟨h, _⟩ <;> first | exact h | exact absurd h (by decide)
   obtain ⟨_, rfl, rfl⟩ : (4 : Int) = 4 ∧ n' = 0 ∧ l' = [] := by rcases hcw.2 with ⟨h, _⟩ | ⟨h, _⟩ | ⟨h, _⟩ | h | ⟨h, _⟩ | ⟨h, _⟩ <;> first | exact h | exact absurd h (by decide)
   simp only [showV, quoteS] at e
   simp only [show ¬ ((4 : Int) = 1) by decide, show ¬ ((4 : Int) = 2) by decide, show ¬ ((4 : Int) = 3) by decide, if_false, if_true, List.cons_append, List.append_assoc, List.cons.injEq, true_and, List.nil_append] at e
   obtain ⟨q1, q2⟩ := QjP e
   exact ⟨by rw [q1], q2⟩
  ·exfalso
   obtain ⟨c, t, e1, _, e2⟩ := Qew hw
   obtain ⟨k, n, s, l⟩ := v
   simp only [V.k] at h4
   subst h4
   rw [e1] at e
   simp [showV, quoteS] at e
   exact e2 k4 e.1.symm
 ·by_cases k4 : w.k = 4
  ·exfalso
   obtain ⟨c, t, e1, _, e2⟩ := Qew hv
   obtain ⟨k, n, s, l⟩ := w
   simp only [V.k] at k4
   subst k4
   rw [e1] at e
   simp [showV, quoteS] at e
   exact e2 h4 e.1
  ·rw [QgH hv h4, QgH hw k4, List.append_assoc, List.append_assoc] at e
   obtain ⟨q1, q2⟩ := Qhi (QgL hv h4) (QgL hw k4) (QhU v r hr) (QhU w r' hr') e
   have hkk : v.k = w.k := by rw [← QgA hv h4, ← QgA hw k4, q1]
   obtain ⟨k, n, s, l⟩ := v
   obtain ⟨k', n', s', l'⟩ := w
   simp only [V.k, V.n, V.s, V.l] at *
   subst hkk
   simp only [tok] at q1
   simp only [rst] at q2
   have tails : ∀ (l l' : List V), formVs l = true → formVs l' = true → (∀ v ∈ l, ∀ (w : V) (r r' : Str), formV v = true → formV w = true → EndS r → EndS r' → showV v ++ r = showV w ++ r' → v = w ∧ r = r') →
    40 :: (showR true l ++ [41]) ++ r = 40 :: (showR true l' ++ [41]) ++ r' → l = l' ∧ r = r' := fun l l' f1 f2 ih e => by
    simp only [List.cons_append, List.append_assoc, List.cons.injEq, true_and, List.nil_append] at e
    exact Qhc l ih true l' r r' f1 f2 e
   rcases hcv.2 with ⟨rfl, a1, a2, a3⟩ | ⟨rfl, a1, a2⟩ | ⟨rfl, a1, a2, a3⟩ | ⟨rfl, _⟩ | ⟨rfl, a1, a2⟩ | ⟨rfl, a1, a2⟩
   ·obtain ⟨b1, b2, b3⟩ : (n' = 0 ∨ n' = 1) ∧ s' = [] ∧ l' = [] := by rcases hcw.2 with ⟨_, h⟩ | ⟨h, _⟩ | ⟨h, _⟩ | ⟨h, _⟩ | ⟨h, _⟩ | ⟨h, _⟩ <;> first | exact h | exact absurd h (by decide)
    subst a2; subst a3; subst b2; subst b3
    simp at q2
    refine ⟨?_, q2⟩
    rcases a1 with rfl | rfl <;> rcases b1 with rfl | rfl <;> first | rfl | exact absurd q1 (by decide)
   ·obtain ⟨b1, b2⟩ : s' = [] ∧ l' = [] := by rcases hcw.2 with ⟨h, _⟩ | ⟨_, h⟩ | ⟨h, _⟩ | ⟨h, _⟩ | ⟨h, _⟩ | ⟨h, _⟩ <;> first | exact h | exact absurd h (by decide)
    subst a1; subst a2; subst b1; subst b2
    simp at q2 q1
    exact ⟨by rw [Qjk q1], q2⟩
   ·obtain ⟨_, b2, b3⟩ : numS s' = true ∧ n' = 0 ∧ l' = [] := by rcases hcw.2 with ⟨h, _⟩ | ⟨h, _⟩ | ⟨_, h⟩ | ⟨h, _⟩ | ⟨h, _⟩ | ⟨h, _⟩ <;> first | exact h | exact absurd h (by decide)
    subst a2; subst a3; subst b2; subst b3
    simp at q2 q1
    exact ⟨by rw [q1], q2⟩
   ·exact absurd rfl h4
   ·obtain ⟨b1, b2⟩ : n' = 0 ∧ s' = [] := by rcases hcw.2 with ⟨h, _⟩ | ⟨h, _⟩ | ⟨h, _⟩ | ⟨h, _⟩ | ⟨_, h⟩ | ⟨h, _⟩ <;> first | exact h | exact absurd h (by decide)
    subst a1; subst a2; subst b1; subst b2
    rw [if_pos (.inl rfl), if_pos (.inl rfl)] at q2
    obtain ⟨q3, q4⟩ := tails l l' hcv.1 hcw.1 ih q2
    exact ⟨by rw [q3], q4⟩
   ·obtain ⟨b1, _⟩ : n' = 0 ∧ namesS s' = true := by rcases hcw.2 with ⟨h, _⟩ | ⟨h, _⟩ | ⟨h, _⟩ | ⟨h, _⟩ | ⟨h, _⟩ | ⟨_, h⟩ <;> first | exact h | exact absurd h (by decide)
    subst a1; subst b1
    simp only [show ¬ ((6 : Int) = 1) by decide, show ¬ ((6 : Int) = 2) by decide, show ¬ ((6 : Int) = 3) by decide, show ¬ ((6 : Int) = 5) by decide, if_false] at q1
    simp only [show ¬ ((6 : Int) = 5) by decide, false_or, true_and] at q2
    subst q1
    by_cases c1 : l.length = 0 <;> by_cases c2 : l'.length = 0
    ·rw [if_neg (by simpa using c1), if_neg (by simpa using c2)] at q2
     rw [List.length_eq_zero_iff.1 c1, List.length_eq_zero_iff.1 c2]
     exact ⟨rfl, q2⟩
    ·rw [if_neg (by simpa using c1), if_pos c2, List.nil_append] at q2
     exact absurd q2 hr.ne40
    ·rw [if_pos c1, if_neg (by simpa using c2), List.nil_append] at q2
     exact absurd q2.symm hr'.ne40
    ·rw [if_pos c1, if_pos c2] at q2
     obtain ⟨q3, q4⟩ := tails l l' hcv.1 hcw.1 ih q2
     exact ⟨by rw [q3], q4⟩
end
section
open Go Go.Proofs
section
variable {C : Ctx} {H : Heap}
theorem QeR {b : Nat} {p : Option (Nat × Nat)} {s : Sl} {K : Heap → Prop} (hb : H b = some (true, .trow tyB 0 [pv p, slv s])) (hp : p = none ∨ p = some (b, 0)) (k : K (H.put b (.trow tyB 0 [pv (some (b, 0)), slv s]))) : QD C (some (b, 0)) K H := by
 apply QbK
 unfold Qay
 refine ⟨_, rfl, p, by simp [rd, hb, GO.cells?], ?_⟩
 rcases hp with rfl | rfl
 ·exact QA rfl ⟨(b, 0), rfl, ⟨true, _, 0, _, hb, by simp⟩, ⟨true, 0, _, hb, rfl, rfl⟩, _, rfl, _, 0, _, hb, Nat.le_refl _, by simp, k⟩
 ·refine Qi rfl ⟨_, rfl, some (b, 0), by simp [rd, hb, GO.cells?], (b, 0), rfl, rfl, Qi rfl ?_⟩
  have : H.put b (.trow tyB 0 [pv (some (b, 0)), slv s]) = H := Heap.put_id hb
  rw [this] at k; exact k
theorem QjQ {H : Heap} {b : Nat} {p : Option (Nat × Nat)} {s : Sl} {t : TypeId} (hb : H b = some (true, .trow t 0 [pv p, slv s])) : rd H (b, 0 + 1) = some (slv s) := by simp [rd, hb, GO.cells?]
theorem QgR {b : Nat} {bs : Str} {c : UInt8} {K : Value → Heap → Prop} (h : IsB tyB tyE H b bs) (hl : bs.length + 1 ≤ 140737488355328) (k : K .nilIface (H.put b (Bd (bs ++ [c])))) : Qf C (some (b, 0)) (c.toNat : Int) K H := by
 apply Qf.gh
 refine h.open_ fun p s H' ho => ?_
 refine QbJ _ _ _ _ _ ?_
 unfold Qax
 refine QeR ho.row ho.self ?_
 have ho2 := ho.setP (p2 := some (b, 0)) (.inr rfl)
 refine ⟨_, rfl, s, QjQ ho2.row, ?_⟩
 refine ho2.apd (by obtain ⟨g, hg⟩ := h.some; exact ⟨_, hg⟩) (ys := [c]) (by simpa using hl) fun r H3 h3 hr => ?_
 exact ⟨_, rfl, _, 0, _, hr, Nat.zero_le _, by simp, _, Gh.hideB h3, k⟩
theorem QfS {b : Nat} {bs c : Str} {K : Int → Value → Heap → Prop} (h : IsB tyB tyE H b bs) (hl : bs.length + c.length ≤ 140737488355328) (k : K (c.length : Int) .nilIface (H.put b (Bd (bs ++ c)))) : Qh C (some (b, 0)) c K H := by
 apply Qh.gh
 refine h.open_ fun p s H' ho => ?_
 refine Qbq _ _ _ _ _ ?_
 unfold Qad
 refine QeR ho.row ho.self ?_
 have ho2 := ho.setP (p2 := some (b, 0)) (.inr rfl)
 refine ⟨_, rfl, s, QjQ ho2.row, ?_⟩
 refine ho2.apd (by obtain ⟨g, hg⟩ := h.some; exact ⟨_, hg⟩) (ys := c) hl fun r H3 h3 hr => ?_
 exact ⟨_, rfl, _, 0, _, hr, Nat.zero_le _, by simp, _, Gh.hideB h3, k⟩
theorem Qig {b : Nat} {bs : Str} {K : Str → Heap → Prop} (h : IsB tyB tyE H b bs) (hl : bs.length ≤ 9223372036854775807) (k : K bs (H.put b (Bd bs))) : Qp C (some (b, 0)) K H := by
 apply Qp.gh
 refine h.open_ fun p s H' ho => ?_
 refine Qcj _ _ _ _ ?_
 unfold QaX
 obtain ⟨e1, e2, e3⟩ := ho.slen
 have hrd : rd (H'.hide s) (b, 0 + 1) = some (slv s) := by
  have : (H'.hide s) b = H' b := by
   unfold Heap.hide
   split
   ·rename_i q hq; rw [if_neg (fun e => ho.ne q hq e.symm)]
   ·rfl
  simp [rd, this, ho.row, GO.cells?]
 refine ⟨H'.hide s, Heap.hide_le _ _, _, rfl, s, hrd, ⟨e3, e2⟩, _, rfl, s, hrd, ?_⟩
 rcases ho.buf with ⟨rfl, rfl⟩ | ⟨g, kk, row, hg, rfl, hgr, hk, hr0, hrl, hcs⟩
 ·exact .inl ⟨rfl, Heap.hide_le _ _, _, Gh.hideB ho, k⟩
 ·by_cases h0 : bs = []
  ·subst h0
   exact .inl ⟨rfl, Heap.hide_le _ _, _, Gh.hideB ho, k⟩
  ·refine .inr ⟨g, kk, row, bs, rfl, hgr, rfl, h0, hl, hcs, fun x v hx => ?_, _, Gh.hideB (b := b) (T := tyB) (e := tyE) (bs := bs) (p := p) (s := ⟨some (g, 0), bs.length, row.length, none⟩) ?_, k⟩
   ·have hxg : x ≠ g := fun e => by subst e; simp [Heap.hide] at hx
    rw [Heap.put_ne _ _ _ hxg]; exact (Heap.hide_le _ _) _ _ hx
   ·refine ⟨ho.self, by rw [Heap.put_ne _ _ _ (Ne.symm hg)]; exact ho.row, .inr ⟨g, max kk bs.length, row, hg, rfl, Heap.put_same .., by omega, hr0, hrl, hcs⟩, ho.gnot, fun x v hx hv => ?_⟩
    have hxg : x ≠ g := fun e => by subst e; have := ho.gnot (x, 0) rfl; dsimp only at this; rw [this] at hv; cases hv
    rw [Heap.put_ne _ _ _ hxg]; exact ho.but x v hx hv
end
end
section
open Go Go.Proofs
section
variable {C : Ctx} {H : Heap}
theorem Qgm {b : Bool} {K : Str → Heap → Prop} (k : K (if b then trueS else falseS) H) : QaS C b K H := by
 apply Qde
 unfold Qbv
 apply Qbp
 unfold Qac
 cases b with
 | true => exact QA rfl k
 | false => exact Qi rfl k
theorem hexS {k : Nat} (h : k < 16) : ([48, 49, 50, 51, 52, 53, 54, 55, 56, 57, 97, 98, 99, 100, 101, 102] : Str)[k]? = some (hexD k) := by
 have : ∀ k : Fin 16, ([48, 49, 50, 51, 52, 53, 54, 55, 56, 57, 97, 98, 99, 100, 101, 102] : Str)[k.val]? = some (hexD k.val) := by decide
 exact this ⟨k, h⟩
theorem shr4 : ∀ c : UInt8, sShr .u8 (c.toNat : Int) 4 = ((c.toNat / 16 : Nat) : Int) := by
 have : ∀ k : Fin 256, sShr .u8 (k.val : Int) 4 = ((k.val / 16 : Nat) : Int) := by decide +kernel
 exact fun c => this ⟨c.toNat, c.toNat_lt⟩
theorem and15 : ∀ c : UInt8, bAnd .u8 (c.toNat : Int) 15 = ((c.toNat % 16 : Nat) : Int) := by
 have : ∀ k : Fin 256, bAnd .u8 (k.val : Int) 15 = ((k.val % 16 : Nat) : Int) := by decide +kernel
 exact fun c => this ⟨c.toNat, c.toNat_lt⟩
/-- over A, of which b is not, the builder b holds bs -/
structure Wr (A B : Heap) (b : Nat) (bs : Str) : Prop where
 le : A.le B
 nb : A b = none
 bl : IsB tyB tyE B b bs
theorem Wr.byte {A B : Heap} {b : Nat} {bs : Str} {c : UInt8} {i : Int} {K : Value → Heap → Prop} (h : Wr A B b bs) (hi : i = (c.toNat : Int)) (hl : bs.length + 1 ≤ 140737488355328) (k : ∀ D, Wr A D b (bs ++ [c]) → K .nilIface D) : Qf C (some (b, 0)) i K B := by
 subst hi
 exact QgR h.bl hl (k _ ⟨h.le.put _ _ h.nb, h.nb, IsB.put⟩)
theorem Wr.str {A B : Heap} {b : Nat} {bs s : Str} {K : Int → Value → Heap → Prop} (h : Wr A B b bs) (hl : bs.length + s.length ≤ 140737488355328) (k : ∀ D, Wr A D b (bs ++ s) → K (s.length : Int) .nilIface D) : Qh C (some (b, 0)) s K B :=
 QfS h.bl hl (k _ ⟨h.le.put _ _ h.nb, h.nb, IsB.put⟩)
theorem QiQ (c : UInt8) : 1 ≤ (qC c).length ∧ (qC c).length ≤ 4 := by
 rcases Qfb c with ⟨_, e⟩ | ⟨_, e⟩ | ⟨_, e⟩ | ⟨_, _, e⟩ | e <;> rw [e] <;> simp
theorem Qjs {A B : Heap} {b : Nat} {bs s : Str} {K : Heap → Prop} (h : Wr A B b bs) (hl : bs.length + (quoteS s).length ≤ 140737488355328) (k : ∀ D, Wr A D b (bs ++ quoteS s) → K D) : QcR C (some (b, 0)) s K B := by
 apply Qf0
 unfold QdZ
 have hql : (quoteS s).length = (s.flatMap qC).length + 2 := by simp [quoteS]
 have hpre : ∀ i, ((s.take i).flatMap qC).length ≤ (s.flatMap qC).length := fun i => by
  have := congrArg List.length (congrArg (List.flatMap qC) (List.take_append_drop i s))
  rw [List.flatMap_append, List.length_append] at this; omega
 have hsl : s.length ≤ (s.flatMap qC).length := by
  clear hl k hql hpre
  induction s with
  | nil => exact Nat.le_refl _
  | cons c s ih =>
   have := (QiQ c).1
   rw [List.flatMap_cons, List.length_append, List.length_cons]; omega
 refine h.byte (c := 34) rfl (by omega) fun B1 h1 => ?_
 refine ⟨fun x D => ∃ i : Nat, x = (i : Int) ∧ i ≤ s.length ∧ Wr A D b (bs ++ [34] ++ (s.take i).flatMap qC), fun x _ => s.length - x.toNat, ⟨0, rfl, Nat.zero_le _, by simpa using h1⟩, ?_⟩
 rintro _ D ⟨i, rfl, hi, hw⟩
 refine ift.of (fun hlt => ?_) (fun hlt => ?_)
 ·have hlt : i < s.length := by have := of_decide_eq_true hlt; omega
  have hstep : (s.take (i + 1)).flatMap qC = (s.take i).flatMap qC ++ qC s[i] := by
   rw [List.take_add_one, List.getElem?_eq_getElem hlt, Option.toList_some, List.flatMap_append, List.flatMap_singleton]
  have hnl := hpre (i + 1)
  rw [hstep, List.length_append] at hnl
  have hcur : (bs ++ [34] ++ (s.take i).flatMap qC).length = bs.length + 1 + ((s.take i).flatMap qC).length := by simp only [List.length_append, List.length_singleton]
  refine ⟨fun _ E => Wr A E b (bs ++ [34] ++ (s.take (i + 1)).flatMap qC), ?_, ?_⟩
  ·refine ⟨s[i], by omega, by rw [Int.toNat_natCast]; exact List.getElem?_eq_getElem hlt, ?_⟩
   rw [hstep, ← List.append_assoc]
   generalize s[i] = c at *
   generalize bs ++ [34] ++ (s.take i).flatMap qC = cur at *
   have e34 : ((c.toNat : Int) == 34) = decide (c = 34) := by
    rw [Bool.eq_iff_iff, beq_iff_eq, decide_eq_true_iff]
    exact ⟨fun h => Qi4 (by show c.toNat = 34; omega), fun h => by rw [h]; rfl⟩
   have e92 : ((c.toNat : Int) == 92) = decide (c = 92) := by
    rw [Bool.eq_iff_iff, beq_iff_eq, decide_eq_true_iff]
    exact ⟨fun h => Qi4 (by show c.toNat = 92; omega), fun h => by rw [h]; rfl⟩
   have e10 : ((c.toNat : Int) == 10) = decide (c = 10) := by
    rw [Bool.eq_iff_iff, beq_iff_eq, decide_eq_true_iff]
    exact ⟨fun h => Qi4 (by show c.toNat = 10; omega), fun h => by rw [h]; rfl⟩
   have e9 : ((c.toNat : Int) == 9) = decide (c = 9) := by
    rw [Bool.eq_iff_iff, beq_iff_eq, decide_eq_true_iff]
    exact ⟨fun h => Qi4 (by show c.toNat = 9; omega), fun h => by rw [h]; rfl⟩
   rw [e34, e92, e10, e9]
   have hq4 := (QiQ c).2
   refine ift.of (fun c1 => ?_) (fun c1 => ?_)
   ·simp only [Bool.or_eq_true, decide_eq_true_eq] at c1
    have e : qC c = [92, c] := by unfold qC; rw [if_pos c1]
    rw [e] at hnl ⊢
    simp only [List.length_cons, List.length_nil] at hnl
    refine hw.byte (c := 92) rfl (by omega) fun D1 h2 => h2.byte (c := c) rfl (by simp; omega) fun D2 h3 => ?_
    simpa using h3
   simp only [Bool.or_eq_false_iff, decide_eq_false_iff_not] at c1
   have c1' : ¬ (c = 34 ∨ c = 92) := fun h => h.elim c1.1 c1.2
   refine ift.of (fun c2 => ?_) (fun c2 => ?_)
   ·have c2 := of_decide_eq_true c2
    have e : qC c = [92, 110] := by unfold qC; rw [if_neg c1', if_pos c2]
    rw [e] at hnl ⊢
    simp only [List.length_cons, List.length_nil] at hnl
    exact hw.str (s := [92, 110]) (by simp; omega) fun D1 h2 => h2
   have c2 := of_decide_eq_false c2
   refine ift.of (fun c3 => ?_) (fun c3 => ?_)
   ·have c3 := of_decide_eq_true c3
    have e : qC c = [92, 116] := by unfold qC; rw [if_neg c1', if_neg c2, if_pos c3]
    rw [e] at hnl ⊢
    simp only [List.length_cons, List.length_nil] at hnl
    exact hw.str (s := [92, 116]) (by simp; omega) fun D1 h2 => h2
   have c3 := of_decide_eq_false c3
   refine ift.of (fun c4 => ?_) (fun c4 => ?_)
   ·simp only [Bool.and_eq_true, decide_eq_true_eq] at c4
    have e : qC c = [c] := by unfold qC; rw [if_neg c1', if_neg c2, if_neg c3, if_pos (by omega)]
    rw [e] at hnl ⊢
    simp only [List.length_cons, List.length_nil] at hnl
    exact hw.byte (c := c) rfl (by omega) fun D1 h2 => h2
   ·simp only [Bool.and_eq_false_iff, decide_eq_false_iff_not] at c4
    have e : qC c = [92, 120, hexD (c.toNat / 16), hexD (c.toNat % 16)] := by unfold qC; rw [if_neg c1', if_neg c2, if_neg c3, if_neg (by omega)]
    rw [e] at hnl ⊢
    simp only [List.length_cons, List.length_nil] at hnl
    have hct := c.toNat_lt
    refine hw.str (s := [92, 120]) (by simp; omega) fun D1 h2 => ?_
    rw [shr4, and15]
    refine ⟨hexD (c.toNat / 16), by omega, by rw [Int.toNat_natCast]; exact hexS (by omega), ?_⟩
    refine h2.byte (c := hexD (c.toNat / 16)) rfl (by simp; omega) fun D2 h3 => ?_
    refine ⟨hexD (c.toNat % 16), by omega, by rw [Int.toNat_natCast]; exact hexS (by omega), ?_⟩
    refine h3.byte (c := hexD (c.toNat % 16)) rfl (by simp; omega) fun D3 h4 => ?_
    simpa using h4
  ·rintro _ E hE
   rw [Qaq (by omega) (by omega)]
   exact ⟨⟨i + 1, by omega, by omega, hE⟩, by first | omega | (dsimp only; omega)⟩
 ·have hie : i = s.length := by have := of_decide_eq_false hlt; omega
  rw [hie, List.take_length] at hw
  refine hw.byte (c := 34) rfl (by simp only [List.length_append, List.length_singleton]; omega) fun E hE => k E ?_
  simpa [quoteS] using hE
/-- the two closures, each in the other's cell -/
structure Clo (C : Ctx) (A : Heap) (b p q : Nat) : Prop where
 list : ∃ x, rd A (p, 0) = some x ∧ ∀ (t : Sl) (B : Heap) (Φ : Value → Heap → Prop), Qcm C t (b, 0) (q, 0) (fun D => Φ (.tuple #[]) D) B → callU Tryz.prog C x [slv t] B Φ
 show_ : ∃ x, rd A (q, 0) = some x ∧ ∀ (v : TV) (B : Heap) (Φ : Value → Heap → Prop), QaV C v (b, 0) (p, 0) (fun D => Φ (.tuple #[]) D) B → callU Tryz.prog C x [.agg (Qa.c v).toArray] B Φ
variable {A B : Heap} {b p q : Nat}
theorem Clo.le {A1 : Heap} (h : Clo C A b p q) (hle : A.le A1) : Clo C A1 b p q := by
 obtain ⟨⟨x, h1, h2⟩, y, h3, h4⟩ := h
 exact ⟨⟨x, Qg7 hle h1, h2⟩, y, Qg7 hle h3, h4⟩
theorem Wr.box {bs : Str} {b1 : Nat} {x : TV} (h : Wr A B b bs) (n1 : B b1 = none) :
 Wr (A.put b1 (.row (Qa.c x))) (B.put b1 (.row (Qa.c x))) b bs ∧ A.le (A.put b1 (.row (Qa.c x))) ∧ (A.put b1 (.row (Qa.c x))) b1 = some (true, .row (Qa.c x)) := by
 have hne : b ≠ b1 := fun e => by
  obtain ⟨g, hg⟩ := h.bl.some
  rw [e, n1] at hg; cases hg
 refine ⟨⟨fun z e hz => ?_, by rw [Heap.put_ne _ _ _ hne]; exact h.nb, h.bl.le (Heap.le_put n1)⟩, Heap.le_put (h.le.none n1), Heap.put_same ..⟩
 by_cases hzb : z = b1
 ·subst hzb; rw [Heap.put_same] at hz ⊢; exact hz
 ·rw [Heap.put_ne _ _ _ hzb] at hz ⊢; exact h.le _ _ hz
theorem Wr.base {A1 D : Heap} {bs : Str} (h : Wr A1 D b bs) (hle : A.le A1) : Wr A D b bs := ⟨hle.trans h.le, hle.none h.nb, h.bl⟩
theorem QhY (v : V) : showV v = if v.k = 1 then (if v.n = 1 then trueS else falseS) else if v.k = 2 then Lib.itoa v.n else if v.k = 3 then v.s ++ [98] else if v.k = 4 then quoteS v.s
 else if v.k = 5 then 40 :: (showR true v.l ++ [41]) else v.s ++ (if v.l.length = 0 then [] else 40 :: (showR true v.l ++ [41])) := by cases v; rfl
theorem Qiy {l : List V} (ih : ∀ w ∈ l, ∀ {A B : Heap} {x : TV} {bs : Str} {K : Heap → Prop}, Clo C A b p q → VIs A w x → VB w → Wr A B b bs → bs.length + (showV w).length ≤ 140737488355328 → (∀ D, Wr A D b (bs ++ showV w) → K D) → QaV C x (b, 0) (p, 0) K B)
 {A B : Heap} {t : Sl} {bs : Str} {K : Heap → Prop} (hC : Clo C A b p q) (hv : VRow A t l) (hl0 : l.length ≤ 140737488355328) (hB : VBs l) (h : Wr A B b bs) (hl : bs.length + (showR true l).length + 2 ≤ 140737488355328)
 (k : ∀ D, Wr A D b (bs ++ (40 :: (showR true l ++ [41]))) → K D) : Qcm C t (b, 0) (q, 0) K B := by
 apply Qfk
 unfold Qdu
 refine h.byte (c := 40) rfl (by omega) fun B1 h1 => ?_
 rw [hv.len]
 refine ⟨fun x D => ∃ i : Nat, x = (i : Int) ∧ i ≤ l.length ∧ Wr A D b (bs ++ [40] ++ showR true (l.take i)), fun x _ => l.length - x.toNat, ⟨0, rfl, Nat.zero_le _, by simpa [showR] using h1⟩, ?_⟩
 rintro _ D ⟨i, rfl, hi, hw⟩
 refine ift.of (fun hlt => ?_) (fun hlt => ?_)
 ·have hlt : i < l.length := by have := of_decide_eq_true hlt; omega
  have hm := List.getElem_mem hlt
  have hst := Qia hlt
  have hpl := QiY l (i + 1)
  rw [hst] at hpl
  simp only [List.length_append] at hpl
  refine hv.ld hw.le rfl hlt fun x hx => ?_
  intro b14 n14
  refine ⟨_, Heap.put_same .., by simp [Qa.c], ?_⟩
  rw [Heap.put_put]
  have hc : splice (Qa.c Qa.zero) (b14, 0).2 (Qa.c x) = Qa.c x := rfl
  rw [hc]
  obtain ⟨w1, w2, w3⟩ := hw.box (x := x) n14
  refine ⟨fun _ E => Wr (A.put b14 (.row (Qa.c x))) E b (bs ++ [40] ++ showR true (l.take i) ++ (if i = 0 then [] else [44, 32])), ?_, ?_⟩
  ·refine ift.of (fun h0 => ?_) (fun h0 => ?_)
   ·have h0 : i ≠ 0 := by have := of_decide_eq_true h0; omega
    rw [if_neg h0] at hpl ⊢
    simp only [List.length_cons, List.length_nil] at hpl
    exact w1.str (s := [44, 32]) (by simp only [List.length_append, List.length_cons, List.length_nil]; omega) fun E hE => hE
   ·have h0 : i = 0 := by have := of_decide_eq_false h0; omega
    rw [if_pos h0, List.append_nil]; exact w1
  ·rintro _ E hE
   obtain ⟨y, y1, y2⟩ := (hC.le w2).show_
   refine ⟨y, Qg7 hE.le y1, bxV (hE.le _ _ w3) (y2 _ _ _ (ih _ hm (hC.le w2) (hx.le w2) (hB.mem hm) hE ?_ fun F hF => ⟨rfl, ?_⟩))⟩
   ·simp only [List.length_append, List.length_cons, List.length_nil]; omega
   ·rw [Qaq (by omega) (by omega)]
    refine ⟨⟨i + 1, by omega, by omega, ?_⟩, by first | omega | (dsimp only; omega)⟩
    rw [hst]
    have := hF.base w2
    simpa only [List.append_assoc] using this
 ·have hie : i = l.length := by have := of_decide_eq_false hlt; omega
  rw [hie, List.take_length] at hw
  refine hw.byte (c := 41) rfl (by simp only [List.length_append, List.length_cons, List.length_nil]; omega) fun E hE => k E ?_
  simpa only [List.append_assoc, List.cons_append, List.nil_append] using hE
theorem Qjz (hF : FmtC C) (v : V) : ∀ {A B : Heap} {x : TV} {bs : Str} {K : Heap → Prop}, Clo C A b p q → VIs A v x → VB v → Wr A B b bs → bs.length + (showV v).length ≤ 140737488355328 → (∀ D, Wr A D b (bs ++ showV v) → K D) → QaV C x (b, 0) (p, 0) K B := by
 refine V.rec_ (P := fun v => ∀ {A B : Heap} {x : TV} {bs : Str} {K : Heap → Prop}, Clo C A b p q → VIs A v x → VB v → Wr A B b bs → bs.length + (showV v).length ≤ 140737488355328 → (∀ D, Wr A D b (bs ++ showV v) → K D) → QaV C x (b, 0) (p, 0) K B) (fun v ih => ?_) v
 intro A B x bs K hC hv hB h hl k
 apply Qfl
 unfold Qdv
 intro b1 n1
 obtain ⟨w1, w2, w3⟩ := h.box (x := x) n1
 have hv1 := QcL.1 hv
 have hb1 := w1.le _ _ w3
 have k1 : ∀ D, Wr (A.put b1 (.row (Qa.c x))) D b (bs ++ showV v) → K D := fun D hD => k D (hD.base w2)
 rw [QhY] at hl k1
 have hC1 := hC.le w2
 have hrow := hv1.2.2.2.le w2
 generalize A.put b1 (.row (Qa.c x)) = A1 at *
 generalize B.put b1 (.row (Qa.c x)) = B1 at *
 refine bxK hb1 ?_
 rw [hv1.1]
 refine ift.of (fun h1 => ?_) (fun h1 => ?_)
 ·have h1 : v.k = 1 := by simpa using h1
  rw [if_pos h1] at hl k1
  refine bxN hb1 (Qgm ?_)
  rw [hv1.2.1]
  have e : (if (v.n == 1) = true then trueS else falseS) = (if v.n = 1 then trueS else falseS) := by simp
  rw [e]
  exact w1.str hl k1
 have h1 : v.k ≠ 1 := by simpa using h1
 rw [if_neg h1] at hl k1
 refine ift.of (fun h2 => ?_) (fun h2 => ?_)
 ·have h2 : v.k = 2 := by simpa using h2
  rw [if_pos h2] at hl k1
  refine bxN hb1 ?_
  rw [hv1.2.1]
  exact hF.ok hB.n.1 hB.n.2 (w1.str hl k1)
 have h2 : v.k ≠ 2 := by simpa using h2
 rw [if_neg h2] at hl k1
 refine ift.of (fun h3 => ?_) (fun h3 => ?_)
 ·have h3 : v.k = 3 := by simpa using h3
  rw [if_pos h3] at hl k1
  simp only [List.length_append, List.length_cons, List.length_nil] at hl
  refine bxS hb1 ?_
  rw [hv1.2.2.1]
  refine w1.str (by omega) fun D hD => hD.byte (c := 98) rfl (by rw [List.length_append]; omega) fun E hE => k1 E ?_
  simpa only [List.append_assoc] using hE
 have h3 : v.k ≠ 3 := by simpa using h3
 rw [if_neg h3] at hl k1
 refine ift.of (fun h4 => ?_) (fun h4 => ?_)
 ·have h4 : v.k = 4 := by simpa using h4
  rw [if_pos h4] at hl k1
  refine bxS hb1 ?_
  rw [hv1.2.2.1]
  exact Qjs w1 hl k1
 have h4 : v.k ≠ 4 := by simpa using h4
 rw [if_neg h4] at hl k1
 obtain ⟨y, y1, y2⟩ := hC1.list
 refine ift.of (fun h5 => ?_) (fun h5 => ?_)
 ·have h5 : v.k = 5 := by simpa using h5
  rw [if_pos h5] at hl k1
  simp only [List.length_append, List.length_cons, List.length_nil] at hl
  exact ⟨y, Qg7 w1.le y1, bxL hb1 (y2 _ _ _ (Qiy ih hC1 hrow hB.l hB.ls w1 (by omega) fun D hD => ⟨rfl, k1 D hD⟩))⟩
 have h5 : v.k ≠ 5 := by simpa using h5
 rw [if_neg h5] at hl k1
 rw [List.length_append] at hl
 refine bxS hb1 ?_
 rw [hv1.2.2.1]
 refine w1.str (by omega) fun D hD => bxL (hD.le _ _ w3) ?_
 rw [hrow.len]
 refine ift.of (fun h6 => ?_) (fun h6 => ?_)
 ·have h6 : v.l.length ≠ 0 := by have := of_decide_eq_true h6; omega
  rw [if_neg h6] at hl k1
  simp only [List.length_append, List.length_cons, List.length_nil] at hl
  refine ⟨y, Qg7 hD.le y1, bxL (hD.le _ _ w3) (y2 _ _ _ (Qiy ih hC1 hrow hB.l hB.ls hD (by rw [List.length_append]; omega) fun E hE => ⟨rfl, k1 E ?_⟩))⟩
  rw [← List.append_assoc]; exact hE
 ·have h6 : v.l.length = 0 := by have := of_decide_eq_false h6; omega
  rw [if_pos h6] at k1
  rw [List.append_nil] at k1
  exact k1 D hD
/-- the text of a value that may be -/
theorem QjU (hF : FmtC C) {v : V} {x : TV} {K : Str → Heap → Prop} (hv : VIs H v x) (hB : VB v) (hl : mayV v = true → (showV v).length ≤ 140737488355328) (k : ∀ H2, H.le H2 → K (if mayV v then showV v else []) H2) : Qa8 C x K H := by
 apply Qgq
 unfold Qes
 intro b1 n1
 have hle1 := Heap.le_put n1 (g := .row (Qa.c x)) (m := true)
 have hb1 : (H.put b1 (.row (Qa.c x))) b1 = some (true, .row (Qa.c x)) := Heap.put_same ..
 have hv1 := hv.le hle1
 generalize H.put b1 (.row (Qa.c x)) = H1 at *
 refine bxV hb1 (Qcs hv1 hB ?_)
 rw [bne, QhN]
 refine ift.of (fun h => ?_) (fun h => ?_)
 ·have h : mayV v = false := by simpa using h
  have := k H1 hle1
  rw [h] at this; exact this
 have h : mayV v = true := by simpa using h
 intro b8 n8 b10 n10 b12 n12
 have l8 := Heap.le_put n8 (g := .trow tyB 0 [pv none, slv Sl.nil]) (m := true)
 have ne1 : b8 ≠ b10 := fun e => by rw [e, Heap.put_same] at n10; cases n10
 have ne2 : b8 ≠ b12 := fun e => by rw [← e, Heap.put_ne _ _ _ ne1, Heap.put_same] at n12; cases n12
 have ne3 : b10 ≠ b12 := fun e => by rw [e, Heap.put_same] at n12; cases n12
 refine ⟨[.nilFunc], Heap.put_same .., Nat.zero_lt_one, ?_⟩
 refine ⟨[.nilFunc], ?_, Nat.zero_lt_one, ?_⟩
 ·show ((((H1.put b8 _).put b10 _).put b12 _).put b12 _) b10 = _
  rw [Heap.put_ne _ _ _ ne3, Heap.put_ne _ _ _ ne3, Heap.put_same]
 generalize hf24 : Value.func (Fn.func _) (List.toArray []) (List.toArray [pv (some (b8, 0)), pv (some (b10, 0))]) = F24
 generalize hf27 : Value.func (Fn.func _) (List.toArray []) (List.toArray [pv (some (b8, 0)), pv (some (b12, 0))]) = F27
 simp only [List.set_cons_zero]
 have n10' : H1 b10 = none := l8.none n10
 have n12' : H1 b12 = none := (l8.trans (Heap.le_put n10)).none n12
 generalize hD0 : ((((H1.put b8 (.trow tyB 0 [pv none, slv Sl.nil])).put b10 (.row [.nilFunc])).put b12 (.row [.nilFunc])).put b12 (.row [F24])).put b10 (.row [F27]) = D0
 have d8 : D0 b8 = some (true, .trow tyB 0 [pv none, slv Sl.nil]) := by
  rw [← hD0, Heap.put_ne _ _ _ ne1, Heap.put_ne _ _ _ ne2, Heap.put_ne _ _ _ ne2, Heap.put_ne _ _ _ ne1, Heap.put_same]
 have d10 : D0 b10 = some (true, .row [F27]) := by rw [← hD0, Heap.put_same]
 have d12 : D0 b12 = some (true, .row [F24]) := by rw [← hD0, Heap.put_ne _ _ _ (Ne.symm ne3), Heap.put_same]
 have dle : H1.le D0 := fun z e hz => by
  have z8 : z ≠ b8 := fun e' => by rw [e', n8] at hz; cases hz
  have z10 : z ≠ b10 := fun e' => by rw [e', n10'] at hz; cases hz
  have z12 : z ≠ b12 := fun e' => by rw [e', n12'] at hz; cases hz
  rw [← hD0, Heap.put_ne _ _ _ z10, Heap.put_ne _ _ _ z12, Heap.put_ne _ _ _ z12, Heap.put_ne _ _ _ z10, Heap.put_ne _ _ _ z8]; exact hz
 clear hD0
 let A : Heap := D0.del b8
 have hA8 : A b8 = none := Heap.del_same ..
 have hAle : A.le D0 := Heap.del_le D0 b8
 have hHA : H1.le A := fun z e hz => by
  have z8 : z ≠ b8 := fun e' => by rw [e', n8] at hz; cases hz
  show D0.del b8 z = _
  rw [Heap.del_ne _ z8]; exact dle _ _ hz
 have hw : Wr A D0 b8 [] := ⟨hAle, hA8, .inr ⟨rfl, d8⟩⟩
 have a10 : A b10 = some (true, .row [F27]) := by show D0.del b8 b10 = _; rw [Heap.del_ne _ (Ne.symm ne1)]; exact d10
 have a12 : A b12 = some (true, .row [F24]) := by show D0.del b8 b12 = _; rw [Heap.del_ne _ (Ne.symm ne2)]; exact d12
 have hC : Clo C A b8 b12 b10 := by
  refine ⟨⟨F24, by simp [rd, a12, GO.cells?], fun t B Φ hh => ?_⟩, F27, by simp [rd, a10, GO.cells?], fun w B Φ hh => ?_⟩
  ·exact ⟨_, [], _, hf24.symm, Qfz, Spec.mono hh fun u B2 ⟨e, h2⟩ => by rw [e]; exact h2⟩
  ·exact ⟨_, [], _, hf27.symm, QfA, Spec.mono hh fun u B2 ⟨e, h2⟩ => by rw [e]; exact h2⟩
 obtain ⟨y, y1, y2⟩ := hC.show_
 refine ⟨y, Qg7 hAle y1, bxV (dle _ _ hb1) (y2 _ _ _ (Qjz hF v (bs := []) hC (hv1.le hHA) hB hw (by simpa using hl h) fun D hD => ⟨rfl, ?_⟩))⟩
 refine Qig hD.bl (by rw [List.nil_append]; have := hl h; omega) ?_
 have := k (D.put b8 (Bd ([] ++ showV v))) ((hle1.trans hHA).trans (hD.le.put _ _ hA8))
 rw [h] at this
 exact this
end
theorem Qh4 (s : Str) : (quoteS s).length ≤ 4 * s.length + 2 := by
 have : (s.flatMap qC).length ≤ 4 * s.length := by
  induction s with
  | nil => exact Nat.le_refl _
  | cons c s ih =>
   have := (QiQ c).2
   rw [List.flatMap_cons, List.length_append, List.length_cons]; omega
 simp only [quoteS, List.length_cons, List.length_append, List.length_nil]; omega
theorem Qhd : ∀ (l : List V) (f : Bool), (∀ v ∈ l, (showV v).length + 2 ≤ 17000 * vsize v) → (showR f l).length ≤ 17000 * vsizes l
 | [], f, _ => by simp [showR]
 | v :: l, f, h => by
  have h1 := h v (List.mem_cons_self ..)
  have h2 := Qhd l false fun w hw => h w (List.mem_cons_of_mem _ hw)
  simp only [showR, vsizes, List.length_append]
  have h3 : (if f = true then ([] : Str) else [44, 32]).length ≤ 2 := by cases f <;> simp
  omega
theorem QiZ (v : V) : VB v → formV v = true → fitsV v = true → (showV v).length + 2 ≤ 17000 * vsize v := by
 refine V.rec_ (P := fun v => VB v → formV v = true → fitsV v = true → (showV v).length + 2 ≤ 17000 * vsize v) (fun v ih => ?_) v
 intro hB hf hfit
 have hsz : vsize v = vsizes v.l + 1 := by cases v; rfl
 obtain ⟨hfs, hc⟩ := QdB hf
 rw [QhG, Bool.and_eq_true] at hfit
 have fm : ∀ {l : List V} {w : V}, w ∈ l → fitsVs l = true → fitsV w = true := by
  intro l
  induction l with
  | nil => intro w hw; cases hw
  | cons x l ihl =>
   intro w hw hl
   simp only [fitsVs, Bool.and_eq_true] at hl
   rcases List.mem_cons.1 hw with rfl | hw
   ·exact hl.1
   ·exact ihl hw hl.2
 have hR := Qhd v.l true fun w hw => ih w hw (hB.ls.mem hw) (QeI hw hfs) (fm hw hfit.2)
 have hfN := hfit.1
 rw [QhY, hsz]
 unfold fitN at hfN
 rcases hc with ⟨h, _⟩ | ⟨h, _⟩ | ⟨h, hn, _⟩ | ⟨h, _⟩ | ⟨h, _⟩ | ⟨h, _, hn⟩
 ·rw [if_pos h]
  have : (if v.n = 1 then trueS else falseS).length ≤ 5 := by split <;> decide
  omega
 ·rw [if_neg (by omega), if_pos h]
  have := Lib.itoa_length_le v.n hB.n.1 hB.n.2
  omega
 ·rw [if_neg (by omega), if_neg (by omega), if_pos h]
  rw [if_pos h] at hfN
  have hd := of_decide_eq_true hfN
  have := (QeJ hn).2.2
  rw [List.length_append, List.length_singleton]; omega
 ·rw [if_neg (by omega), if_neg (by omega), if_neg (by omega), if_pos h]
  rw [if_neg (by omega), if_pos h] at hfN
  have hd := of_decide_eq_true hfN
  have := Qh4 v.s
  omega
 ·rw [if_neg (by omega), if_neg (by omega), if_neg (by omega), if_neg (by omega), if_pos h]
  simp only [List.length_cons, List.length_append, List.length_nil]; omega
 ·rw [if_neg (by omega), if_neg (by omega), if_neg (by omega), if_neg (by omega), if_neg (by omega)]
  have := (Qdh hn).2.2.2.1
  have h2 : (if v.l.length = 0 then ([] : Str) else 40 :: (showR true v.l ++ [41])).length ≤ (showR true v.l).length + 2 := by
   split
   ·exact Nat.zero_le _
   ·simp
  rw [List.length_append]; omega
end
section
open Go Go.Proofs
section
variable {C : Ctx} {H : Heap}
end
end
section
open Go Go.Proofs
theorem QfO {l : List V} {i : Nat} (h : i < l.length) : vsizes (l.take (i + 1)) = vsizes (l.take i) + vsize l[i] := by
 have e : ∀ a b : List V, vsizes (a ++ b) = vsizes a + vsizes b := by
  intro a
  induction a with
  | nil => intro b; simp [vsizes]
  | cons v a ih => intro b; simp only [List.cons_append, vsizes, ih]; omega
 rw [List.take_add_one, List.getElem?_eq_getElem h, Option.toList_some, e]; simp [vsizes]
section
variable {C : Ctx} {H : Heap}
theorem div50 {n : Nat} (h : n ≤ 140737488355328) : w .i64 (1 + w .i64 (Int.tdiv (n : Int) 50)) = ((1 + n / 50 : Nat) : Int) := by
 have e : Int.tdiv (n : Int) 50 = ((n / 50 : Nat) : Int) := by
  rw [Int.tdiv_eq_ediv_of_nonneg (by omega)]; omega
 rw [e, Qaq (x := ((n / 50 : Nat) : Int)) (by omega) (by omega), Qaq (by omega) (by omega)]; omega
theorem Qi9 {v : V} {x : TV} {H : Heap} {m : Nat} {K : Int → Heap → Prop} (hv : VIs H v x) (hB : VB v) (h0 : 1 ≤ m) (hm : m ≤ 1000000) (k : ∀ r : Nat, 1 ≤ r → r ≤ 8796093022208 + m → (r < m → vsize v ≤ r) → K r H) : QN C x m K H := by
 refine V.rec_ (P := fun v => ∀ {x H} {m : Nat} {K : Int → Heap → Prop}, VIs H v x → VB v → 1 ≤ m → m ≤ 1000000 → (∀ r : Nat, 1 ≤ r → r ≤ 8796093022208 + m → (r < m → vsize v ≤ r) → K r H) → QN C x m K H) (fun v ih => ?_) v hv hB h0 hm k
 clear hv hB h0 hm k m
 intro x H m K hv hB h0 hm k
 apply QN.gh
 apply Qfe
 unfold Qdo
 intro b1 n1
 have hr := hv.row
 have hl := hr.len
 have hbl := hB.l
 have hbs := hB.s
 have hsz : vsize v = vsizes v.l + 1 := by obtain ⟨k, n, s, l⟩ := v; rfl
 have hb1 : (H.put b1 (.row (Qa.c x))) b1 = some (true, .row (Qa.c x)) := Heap.put_same ..
 have hle1 := Heap.le_put n1 (g := .row (Qa.c x)) (m := true)
 generalize H.put b1 (.row (Qa.c x)) = H1 at *
 refine bxS hb1 ?_
 rw [hv.txt, div50 hbs]
 have hd : v.s.length / 50 ≤ 2814749767107 := by omega
 refine ⟨fun y A => A = H1 ∧ ∃ i n : Nat, y = ((n : Int), (i : Int)) ∧ i ≤ v.l.length ∧ 1 ≤ n ∧ n ≤ 8796093022208 + m ∧ (n < m → 1 + vsizes (v.l.take i) ≤ n), fun y _ => v.l.length - y.2.toNat,
  ⟨rfl, 0, _, rfl, Nat.zero_le _, by omega, by omega, fun _ => by simp [vsizes]⟩, ?_⟩
 rintro _ A ⟨rfl, i, n, rfl, hi, hn1, hn2, hn3⟩
 refine bxL hb1 ?_
 rw [hl]
 refine ift.of (fun h => ?_) (fun h => ?_)
 ·simp only [Bool.and_eq_true, decide_eq_true_eq] at h
  have hlt : i < v.l.length := by omega
  have hnm : n < m := by omega
  have hmem := List.getElem_mem hlt
  refine bxL hb1 ?_
  refine hr.ld hle1 rfl hlt fun y hy => ?_
  rw [Qaq (x := (m : Int) - n) (by omega) (by omega), show (m : Int) - n = ((m - n : Nat) : Int) by omega]
  refine ih _ hmem (hy.le hle1) (hB.ls.mem hmem) (by omega) (by omega) fun r r1 r2 r3 => ?_
  rw [Qaq (by omega) (by omega), Qaq (by omega) (by omega)]
  refine ⟨⟨rfl, i + 1, n + r, by simp, by omega, by omega, by omega, fun hh => ?_⟩, by first | omega | (dsimp only; omega)⟩
  rw [QfO hlt]
  have := r3 (by omega)
  have := hn3 hnm
  omega
 ·refine ⟨H, Gh.le hle1, k n hn1 hn2 fun hh => ?_⟩
  have hie : i = v.l.length := by
   have hnm := hh
   simp only [Bool.and_eq_false_iff, decide_eq_false_iff_not] at h
   omega
  have := hn3 hh
  rw [hie, List.take_length] at this
  omega
end
end
section
open Go Go.Proofs
/-- a row and its relation's name -/
abbrev NR := Str × List V
def cmpN (a b : NR) : Int := if vcmpS a.1 b.1 ≠ 0 then vcmpS a.1 b.1 else cmpR a.2 b.2
theorem Lin.nr : Lin cmpN fun _ => True := (Lin.txt.comp (fun p : NR => p.1)).or (Lin.row.comp fun p : NR => p.2)
theorem Qii {a b : NR} (ha : mayR a.2 = true) (hb : mayR b.2 = true) : cmpN a b = 0 ↔ a = b := by
 refine ⟨fun h => ?_, fun h => by rw [h]; exact Lin.nr.refl trivial⟩
 unfold cmpN at h
 split at h
 ·rename_i h1; exact absurd h h1
 ·rename_i h1
  have h1 : vcmpS a.1 b.1 = 0 := by omega
  exact Prod.ext ((vslt _ _).2.1.1 h1) ((QgW ha hb).1 h)
/-- what is there -/
abbrev Sta := NR → Prop
def noS : Sta := fun _ => False
def putS (S : Sta) (x : NR) : Sta := fun y => S y ∨ y = x
def Qeg (S : Sta) (x : NR) : Sta := fun y => S y ∧ y ≠ x
theorem Qjr {S : Sta} {x : NR} (h : ¬ S x) : Qeg (putS S x) x = S := by
 funext y
 refine propext ⟨fun ⟨h1, h2⟩ => h1.resolve_right h2, fun h1 => ⟨.inl h1, fun e => h (e ▸ h1)⟩⟩
theorem Qji {S : Sta} {x : NR} (h : S x) : putS (Qeg S x) x = S := by
 funext y
 refine propext ⟨fun h1 => h1.elim (fun h2 => h2.1) fun e => e ▸ h, fun h1 => ?_⟩
 by_cases e : y = x
 ·exact .inr e
 ·exact .inl ⟨h1, e⟩
/-- a thing done: put there (true) or taken away -/
abbrev Th := Bool × NR
def stepS (t : Th) (S S2 : Sta) : Prop := if t.1 then ¬ S t.2 ∧ S2 = putS S t.2 else S t.2 ∧ S2 = Qeg S t.2
theorem QgK {x : NR} {S S2 : Sta} : stepS (true, x) S S2 ↔ ¬ S x ∧ S2 = putS S x := Iff.rfl
theorem QgJ {x : NR} {S S2 : Sta} : stepS (false, x) S S2 ↔ S x ∧ S2 = Qeg S x := Iff.rfl
/-- a step turns that row alone -/
theorem stepS.turn {t : Th} {S S2 : Sta} (h : stepS t S S2) : (S2 t.2 ↔ ¬ S t.2) ∧ ∀ y, y ≠ t.2 → (S2 y ↔ S y) := by
 obtain ⟨b, x⟩ := t
 cases b with
 | true =>
  obtain ⟨h1, rfl⟩ := QgK.1 h
  exact ⟨⟨fun _ => h1, fun _ => .inr rfl⟩, fun y hy => ⟨fun h => h.resolve_right hy, .inl⟩⟩
 | false =>
  obtain ⟨h1, rfl⟩ := QgJ.1 h
  exact ⟨⟨fun h => absurd rfl h.2, fun h => absurd h1 h⟩, fun y hy => ⟨fun h => h.1, fun h => ⟨h, hy⟩⟩⟩
def RiseN (W : List NR) : Prop := W.Pairwise fun a b => cmpN a b < 0
def RiseT (N : List Str) : Prop := N.Pairwise fun a b => vcmpS a b < 0
def Rise (T : List (List V)) : Prop := T.Pairwise fun a b => cmpR a b < 0
/-- a list of all that is there -/
structure IsW (S : Sta) (W : List NR) : Prop where
 rise : RiseN W
 mem : ∀ x, x ∈ W ↔ S x
theorem IsW.uniq {S : Sta} {W W2 : List NR} (h : IsW S W) (h2 : IsW S W2) : W = W2 :=
 Qfo (P := fun _ => True) Lin.nr h.rise h2.rise (fun _ _ => trivial) fun x => (h.mem x).trans (h2.mem x).symm
theorem RiseN.nodup {W : List NR} (h : RiseN W) : W.Nodup := h.imp fun {a b} hab e => by
 rw [e, Lin.nr.refl trivial] at hab; omega
theorem QhC {f : Str → List (List V)} : ∀ {N : List Str}, RiseT N → (∀ n ∈ N, Rise (f n)) → RiseN (N.flatMap fun n => (f n).map fun r => (n, r))
 | [], _, _ => .nil
 | n :: N, h, hf => by
  have h1 := List.pairwise_cons.1 h
  rw [List.flatMap_cons]
  refine List.pairwise_append.2 ⟨?_, QhC h1.2 fun m hm => hf m (List.mem_cons_of_mem _ hm), fun a ha b hb => ?_⟩
  ·rw [List.pairwise_map]
   refine (hf n (List.mem_cons_self ..)).imp fun {a b} hab => ?_
   unfold cmpN
   dsimp only
   rw [if_neg (by rw [Lin.txt.refl trivial]; simp)]; exact hab
  ·obtain ⟨r, _, rfl⟩ := List.mem_map.1 ha
   obtain ⟨m, hm, hb⟩ := List.mem_flatMap.1 hb
   obtain ⟨q, _, rfl⟩ := List.mem_map.1 hb
   have := h1.1 m hm
   unfold cmpN
   dsimp only
   rw [if_pos (by omega)]; exact this
theorem QjW {f : Str → List (List V)} {N : List Str} {x : NR} : x ∈ (N.flatMap fun n => (f n).map fun r => (n, r)) ↔ x.1 ∈ N ∧ x.2 ∈ f x.1 := by
 rw [List.mem_flatMap]
 constructor
 ·rintro ⟨n, hn, hx⟩
  obtain ⟨r, hr, rfl⟩ := List.mem_map.1 hx
  exact ⟨hn, hr⟩
 ·rintro ⟨h1, h2⟩
  exact ⟨x.1, h1, List.mem_map.2 ⟨x.2, h2, rfl⟩⟩
abbrev Cg := NR × Int
structure IsD (S0 S : Sta) (D : List Cg) : Prop where
 rise : RiseN (D.map fun d => d.1)
 mem : ∀ x n, (x, n) ∈ D ↔ (n = 1 ∧ S x ∧ ¬ S0 x) ∨ (n = -1 ∧ S0 x ∧ ¬ S x)
theorem IsD.key {S0 S : Sta} {D : List Cg} (h : IsD S0 S D) (x : NR) : x ∈ (D.map fun d => d.1) ↔ ¬ (S x ↔ S0 x) := by
 rw [List.mem_map]
 constructor
 ·rintro ⟨⟨y, n⟩, hd, rfl⟩
  rcases (h.mem _ _).1 hd with ⟨_, h1, h2⟩ | ⟨_, h1, h2⟩
  ·exact fun h3 => h2 (h3.1 h1)
  ·exact fun h3 => h2 (h3.2 h1)
 ·intro hx
  by_cases h1 : S x
  ·exact ⟨(x, 1), (h.mem _ _).2 (.inl ⟨rfl, h1, fun h2 => hx ⟨fun _ => h2, fun _ => h1⟩⟩), rfl⟩
  ·by_cases h2 : S0 x
   ·exact ⟨(x, -1), (h.mem _ _).2 (.inr ⟨rfl, h2, h1⟩), rfl⟩
   ·exact absurd ⟨fun h => absurd h h1, fun h => absurd h h2⟩ hx
theorem IsD.fst {S0 S : Sta} {D : List Cg} (h : IsD S0 S D) {x : NR} {n m : Int} (h1 : (x, n) ∈ D) (h2 : (x, m) ∈ D) : n = m := by
 rcases (h.mem _ _).1 h1 with ⟨e1, a1, b1⟩ | ⟨e1, a1, b1⟩ <;> rcases (h.mem _ _).1 h2 with ⟨e2, a2, b2⟩ | ⟨e2, a2, b2⟩
 ·rw [e1, e2]
 ·exact absurd a2 b1
 ·exact absurd a1 b2
 ·rw [e1, e2]
theorem IsD.uniq {S0 S : Sta} {D D2 : List Cg} (h : IsD S0 S D) (h2 : IsD S0 S D2) : D = D2 := by
 have hk : (D.map fun d => d.1) = D2.map fun d => d.1 := Qfo (P := fun _ => True) Lin.nr h.rise h2.rise (fun _ _ => trivial) fun x => (h.key x).trans (h2.key x).symm
 refine List.ext_getElem? fun i => ?_
 have hi := congrArg (fun l => l[i]?) hk
 simp only [List.getElem?_map] at hi
 cases e1 : D[i]? with
 | none =>
  rw [e1] at hi
  cases e2 : D2[i]? with
  | none => rfl
  | some b => rw [e2] at hi; cases hi
 | some a =>
  rw [e1] at hi
  cases e2 : D2[i]? with
  | none => rw [e2] at hi; cases hi
  | some b =>
   rw [e2] at hi
   simp only [Option.map_some, Option.some.injEq] at hi
   obtain ⟨x, n⟩ := a
   obtain ⟨y, m⟩ := b
   dsimp only at hi; subst hi
   have m1 := (h.mem _ _).1 (List.mem_of_getElem? e1)
   have m2 := (h2.mem x m).1 (List.mem_of_getElem? e2)
   have := h.fst ((h.mem _ _).2 m1) ((h.mem x m).2 m2)
   rw [this]
/-- changes done up to a place -/
def upto (S0 S : Sta) (D : List Cg) (i : Nat) : Sta := fun x => (x ∈ ((D.take i).map fun d => d.1) ∧ S x) ∨ (x ∉ ((D.take i).map fun d => d.1) ∧ S0 x)
theorem Qi7 {S0 S : Sta} {D : List Cg} : upto S0 S D 0 = S0 := by
 funext x; unfold upto; simp
theorem QjG {S0 S : Sta} {D : List Cg} (h : IsD S0 S D) : upto S0 S D D.length = S := by
 funext x
 unfold upto
 rw [List.take_length]
 refine propext ⟨fun h1 => h1.elim (fun h => h.2) fun ⟨h1, h2⟩ => ?_, fun hx => ?_⟩
 ·rw [h.key] at h1
  exact (Classical.not_not.1 h1).2 h2
 ·by_cases h1 : x ∈ D.map fun d => d.1
  ·exact .inl ⟨h1, hx⟩
  ·refine .inr ⟨h1, ?_⟩
   rw [h.key] at h1
   exact (Classical.not_not.1 h1).1 hx
theorem Qi6 {S0 S : Sta} {D : List Cg} (h : IsD S0 S D) {i : Nat} {x : NR} {n : Int} (hi : D[i]? = some (x, n)) :
 (n = 1 ∧ ¬ upto S0 S D i x ∧ upto S0 S D (i + 1) = putS (upto S0 S D i) x) ∨ (n = -1 ∧ upto S0 S D i x ∧ upto S0 S D (i + 1) = Qeg (upto S0 S D i) x) := by
 have hm := List.mem_of_getElem? hi
 have hlt : i < D.length := (List.getElem?_eq_some_iff.1 hi).1
 have hx : x ∉ (D.take i).map fun d => d.1 := fun hmem => by
  have hn := h.rise.nodup
  rw [← List.take_append_drop i D, List.map_append, List.nodup_append] at hn
  have : x ∈ (D.drop i).map fun d => d.1 := List.mem_map.2 ⟨(x, n), List.mem_iff_getElem?.2 ⟨0, by rw [List.getElem?_drop]; simpa using hi⟩, rfl⟩
  exact hn.2.2 x hmem x this rfl
 have ht : ((D.take (i + 1)).map fun d => d.1) = ((D.take i).map fun d => d.1) ++ [x] := by
  rw [List.take_add_one, hi, List.map_append]; rfl
 have e : ∀ y, upto S0 S D (i + 1) y ↔ (y = x ∧ S x) ∨ (y ≠ x ∧ upto S0 S D i y) := fun y => by
  unfold upto
  rw [ht, List.mem_append, List.mem_singleton]
  by_cases hy : y = x
  ·subst hy
   exact ⟨fun h => h.elim (fun h => .inl ⟨rfl, h.2⟩) fun h => absurd (.inr rfl) h.1, fun h => h.elim (fun h => .inl ⟨.inr rfl, h.2⟩) fun h => absurd rfl h.1⟩
  ·have hiff : (y ∈ ((D.take i).map fun d => d.1) ∨ y = x) ↔ y ∈ ((D.take i).map fun d => d.1) := ⟨fun h => h.resolve_right hy, .inl⟩
   rw [hiff]
   exact ⟨fun h => .inr ⟨hy, h⟩, fun h => h.elim (fun h => absurd h.1 hy) fun h => h.2⟩
 have e0 : upto S0 S D i x ↔ S0 x := ⟨fun h => h.elim (fun h => absurd h.1 hx) fun h => h.2, fun h => .inr ⟨hx, h⟩⟩
 rcases (h.mem _ _).1 hm with ⟨h1, h2, h3⟩ | ⟨h1, h2, h3⟩
 ·refine .inl ⟨h1, fun h4 => h3 (e0.1 h4), ?_⟩
  funext y
  refine propext ((e y).trans ⟨fun h5 => h5.elim (fun h6 => .inr h6.1) fun h6 => .inl h6.2, fun h5 => ?_⟩)
  by_cases hy : y = x
  ·exact .inl ⟨hy, h2⟩
  ·exact .inr ⟨hy, h5.resolve_right hy⟩
 ·refine .inr ⟨h1, e0.2 h2, ?_⟩
  funext y
  refine propext ((e y).trans ⟨fun h5 => h5.elim (fun h6 => absurd h6.2 h3) fun h6 => ⟨h6.2, h6.1⟩, fun h5 => .inr ⟨h5.2, h5.1⟩⟩)
end
end Sx
end
