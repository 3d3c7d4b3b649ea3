/-
  Texts of this family, one behind the other: Sh, FmtI, SrtL, SrkL, SrtT, ValQ, ValU, ValP1, ValP2, ValP3, ValP4, ValP5, ValR, ValW, ValX, ValC1.
-/
import Derived.Test.YtnpkgflmjibkeaaGreatDoorAP3
import Derived.Shelf.Strconv.Itoa4
import Derived.Shelf.SlSortCmp.NoneTotal
import Derived.Shelf.Sort.Plain
import Derived.Shelf.Slices.In.SortNone
noncomputable section
set_option linter.unusedVariables false
set_option linter.unusedSimpArgs false
set_option maxRecDepth 10000
namespace Sx
section
set_option maxRecDepth 100000
open Go Go.Proofs
def QeI (C : Ctx) (p_v : Qa) (v0 : Nat × Nat) (v1 : Nat × Nat) (K : Heap → Prop) (H : Heap) : Prop :=
 nw (Qa.c p_v) (fun b1 H2 =>
 ldI H2 .u8 ((b1, 0).1, (b1, 0).2 + 0) fun x3 =>
 ift ((x3 : Int) == 1)
 (ldI H2 .i64 ((b1, 0).1, (b1, 0).2 + 1) fun x6 =>
 Qbb C ((x6 : Int) == 1) (fun r8 H9 =>
 Qh C (some v0) r8 (fun r10 r11 H12 =>
 K H12) H9) H2)
 (ift ((x3 : Int) == 2)
 (ldI H2 .i64 ((b1, 0).1, (b1, 0).2 + 1) fun x14 =>
 Qcy C x14 10 (fun r16 H17 =>
 Qh C (some v0) r16 (fun r18 r19 H20 =>
 K H20) H17) H2)
 (ift ((x3 : Int) == 3)
 (ldS H2 ((b1, 0).1, (b1, 0).2 + 2) fun x22 =>
 Qh C (some v0) x22 (fun r24 r25 H26 =>
 Qf C (some v0) 98 (fun r27 H28 =>
 K H28) H26) H2)
 (ift ((x3 : Int) == 4)
 (ldS H2 ((b1, 0).1, (b1, 0).2 + 2) fun x30 =>
 QdJ C (some v0) x30 (fun H32 =>
 K H32) H2)
 (ift ((x3 : Int) == 5)
 (ldV H2 v1 fun x34 =>
 ldL H2 ((b1, 0).1, (b1, 0).2 + 3) fun x36 =>
 callU Tryz.prog C x34 [slv x36] H2 (fun v H38 => v = .tuple #[] ∧
 K H38))
 (ldS H2 ((b1, 0).1, (b1, 0).2 + 2) fun x39 =>
 Qh C (some v0) x39 (fun r41 r42 H43 =>
 ldL H43 ((b1, 0).1, (b1, 0).2 + 3) fun x44 =>
 ift (decide (((Sl.len x44 : Int) : Int) > 0))
 (ldV H43 v1 fun x47 =>
 ldL H43 ((b1, 0).1, (b1, 0).2 + 3) fun x49 =>
 callU Tryz.prog C x47 [slv x49] H43 (fun v H51 => v = .tuple #[] ∧
 K H51))
 (K H43)) H2)))))) H
theorem Qhq (C p_v v0 v1 K H) (h : QeI C p_v v0 v1 K H) : Qbe C p_v v0 v1 K H := by
 refine Ye Tryz.func98 rfl Tryz.ntmps98 [(0, .agg (Qa.c p_v).toArray), (1, pv (some v0)), (2, pv (some v1))] (Zo (GL.box (v := .agg (Qa.c p_v).toArray) (cs := Qa.c p_v) h trivial rfl rfl rfl ?_))
 intro b1 H2 h
 refine GL.nil (Zo (Zf (Yl h fun x3 h => ?_)))
 refine GL.nil (GC.block (Zo (Zi (.bool ((x3 : Int) == 1)) (Za (GL.nil (Yd h (fun u5 h => ?_) fun u5 h => ?_))))))
 refine GC.region (Zf (Yl h fun x6 h => ?_))
 refine Zi (.bool ((x6 : Int) == 1)) (Zc h Qer ?_)
 rintro _ H9 ⟨r8, rfl, h⟩
 refine Zc h Ql ?_
 rintro _ H12 ⟨r10, r11, rfl, h⟩
 exact GL.ends (fun _ _ hf hs => Qy rfl hf hs ⟨rfl, h⟩)
 refine Zo (Zi (.bool ((x3 : Int) == 2)) (Za (GL.nil (Yd h (fun u13 h => ?_) fun u13 h => ?_))))
 refine GC.region (Zf (Yl h fun x14 h => ?_))
 refine Zc h Qe0 ?_
 rintro _ H17 ⟨r16, rfl, h⟩
 refine Zc h Ql ?_
 rintro _ H20 ⟨r18, r19, rfl, h⟩
 exact GL.ends (fun _ _ hf hs => Qy rfl hf hs ⟨rfl, h⟩)
 refine Zo (Zi (.bool ((x3 : Int) == 3)) (Za (GL.nil (Yd h (fun u21 h => ?_) fun u21 h => ?_))))
 refine Zo (Zf (Yl h fun x22 h => ?_))
 refine Zc h Ql ?_
 rintro _ H26 ⟨r24, r25, rfl, h⟩
 refine GL.nil (GC.region (Zc h Qj ?_))
 rintro _ H28 ⟨r27, rfl, h⟩
 exact GL.ends (fun _ _ hf hs => Qy rfl hf hs ⟨rfl, h⟩)
 refine Zo (Zi (.bool ((x3 : Int) == 4)) (Za (GL.nil (Yd h (fun u29 h => ?_) fun u29 h => ?_))))
 refine GC.region (Zf (Yl h fun x30 h => ?_))
 refine Zc h Qis ?_
 rintro _ H32 ⟨rfl, h⟩
 exact GL.ends (fun _ _ hf hs => Qy rfl hf hs ⟨rfl, h⟩)
 refine Zo (Zi (.bool ((x3 : Int) == 5)) (Za (GL.nil (Yd h (fun u33 h => ?_) fun u33 h => ?_))))
 refine GC.region (Yl h fun x34 h => ?_)
 refine Zf (Yl h fun x36 h => ?_)
 refine GL.callU (xv := x34) (vs := [slv x36]) h trivial rfl rfl rfl ?_
 rintro _ H38 ⟨rfl, h⟩
 exact GL.ends (fun _ _ hf hs => Qy rfl hf hs ⟨rfl, h⟩)
 refine Zo (Zf (Yl h fun x39 h => ?_))
 refine Zc h Ql ?_
 rintro _ H43 ⟨r41, r42, rfl, h⟩
 refine GL.nil (Zo (Zf (Yl h fun x44 h => ?_)))
 refine Zq (Zi (.bool (decide (((Sl.len x44 : Int) : Int) > 0))) (GL.nil (Yd h (fun u46 h => ?_) fun u46 h => ?_)))
 refine GC.region (Yl h fun x47 h => ?_)
 refine Zf (Yl h fun x49 h => ?_)
 refine GL.callU (xv := x47) (vs := [slv x49]) h trivial rfl rfl rfl ?_
 rintro _ H51 ⟨rfl, h⟩
 exact GL.ends (fun _ _ hf hs => Qy rfl hf hs ⟨rfl, h⟩)
 exact GC.ends (fun _ _ hf hs => Qy rfl hf hs ⟨rfl, h⟩)
def Qb4 (C : Ctx) (p_b : Bool) (K : Str → Heap → Prop) (H : Heap) : Prop :=
 Qaw C p_b (fun r1 H2 =>
 K r1 H2) H
theorem Qeh (C p_b K H) (h : Qb4 C p_b K H) : Qbb C p_b K H := by
 refine Ye Tryz.func99 rfl Tryz.ntmps99 [(0, .bool p_b)] (Zo (Za (GL.nil (Zo (Zm (Zc h Qb1 ?_))))))
 rintro _ H2 ⟨r1, rfl, h⟩
 refine Za (GL.nil ?_)
 exact Y1 I3 ⟨r1, rfl, h⟩
def Qfl (C : Ctx) (p_b : Option (Nat × Nat)) (p_s : Str) (K : Heap → Prop) (H : Heap) : Prop :=
 Qf C p_b 34 (fun r1 H2 =>
 lp (α := Int) 0 H2 (fun x3 J4 H5 =>
 ift (decide ((x3 : Int) < (List.length p_s : Int)))
 (jn (α := Unit) (fun x8 H9 =>
 J4 (w .i64 (x3 + 1)) H9)
 (fun J7 => ixs p_s x3 fun c11 =>
 ift ((((c11.toNat : Int) : Int) == 34) || (((c11.toNat : Int) : Int) == 92))
 (Qf C p_b 92 (fun r16 H17 =>
 Qf C p_b (c11.toNat : Int) (fun r18 H19 =>
 J7 () H19) H17) H5)
 (ift (((c11.toNat : Int) : Int) == 10)
 (Qh C p_b [92, 110] (fun r21 r22 H23 =>
 J7 () H23) H5)
 (ift (((c11.toNat : Int) : Int) == 9)
 (Qh C p_b [92, 116] (fun r25 r26 H27 =>
 J7 () H27) H5)
 (ift ((decide (((c11.toNat : Int) : Int) ≥ 32)) && (decide (((c11.toNat : Int) : Int) ≤ 126)))
 (Qf C p_b (c11.toNat : Int) (fun r30 H31 =>
 J7 () H31) H5)
 (Qh C p_b [92, 120] (fun r32 r33 H34 =>
 ixs [48, 49, 50, 51, 52, 53, 54, 55, 56, 57, 97, 98, 99, 100, 101, 102] (sShr .u8 (c11.toNat : Int) 4) fun c35 =>
 Qf C p_b (c35.toNat : Int) (fun r38 H39 =>
 ixs [48, 49, 50, 51, 52, 53, 54, 55, 56, 57, 97, 98, 99, 100, 101, 102] (bAnd .u8 (c11.toNat : Int) 15) fun c40 =>
 Qf C p_b (c40.toNat : Int) (fun r43 H44 =>
 J7 () H44) H39) H34) H5))))))
 (Qf C p_b 34 (fun r45 H46 =>
 K H46) H5))) H
theorem Qil (C p_b p_s K H) (h : Qfl C p_b p_s K H) : QdJ C p_b p_s K H := by
 refine Ye Tryz.func101 rfl Tryz.ntmps101 [(0, pv p_b), (1, sv p_s)] (Zo (Zm (Zc h Qj ?_)))
 rintro _ H2 ⟨r1, rfl, h⟩
 refine GL.nil (GC.seq (Zo (Zm (Zr (Zm (GL.nil (GC.block (Yp h (fun x3 => [(10, .int .i64 x3), (0, pv p_b), (1, sv p_s), (9, .int .i64 (List.length p_s : Int))]) ?_))))))))
 intro x3 H5 J4 h
 refine Zo (Zi (.bool (decide ((x3 : Int) < (List.length p_s : Int)))) (GL.nil (GC.seq (Yd h (fun hc6 h => ?_) fun hc6 h => ?_))))
 refine GC.skip ?_
 obtain ⟨J7, h, hR10⟩ := h
 refine GC.join (α := Unit) J7 (fun _ => [(0, pv p_b), (1, sv p_s), (9, .int .i64 (List.length p_s : Int)), (10, .int .i64 x3)]) ?_ ?_
 refine GC.block (Zo (Zm (Za (GL.nil (Zo (Zm (Zm (Ys h fun c11 h => ?_))))))))
 refine Za (GL.nil (GC.block (Zo (Zm (Zi (.bool (((c11.toNat : Int) : Int) == 34)) (Zm (GL.cut0 3 [(34, .bool ((((c11.toNat : Int) : Int) == 34) || (((c11.toNat : Int) : Int) == 92))), (0, pv p_b), (1, sv p_s), (5, .int .u8 (c11.toNat : Int)), (9, .int .i64 (List.length p_s : Int)), (10, .int .i64 x3)] ?_ ?_)))))))
 rcases Zb (((c11.toNat : Int) : Int) == 34) with hc14 | hc14
 refine Zk hc14 (Zk hc14 (Zt hc14 ?_))
 exact GL.jump0 (fun _ _ h => h) () rfl ⟨(by rw [hc14]; rfl), rfl, rfl, rfl, rfl, rfl, trivial⟩
 refine Zu hc14 Ym (Zu hc14 (OV.ibin (v := .bool (((c11.toNat : Int) : Int) == 92)) rfl rfl rfl) (Zn hc14 ?_))
 exact GL.jump0 (fun _ _ h => h) () rfl ⟨(by rw [hc14]; rfl), rfl, rfl, rfl, rfl, rfl, trivial⟩
 refine Za (GL.nil (Yd h (fun hc15 h => ?_) fun hc15 h => ?_))
 refine Zo (Zm (Zc h Qj ?_))
 rintro _ H17 ⟨r16, rfl, h⟩
 refine GL.nil (GC.region (Zm (Zm (Zc h Qj ?_))))
 rintro _ H19 ⟨r18, rfl, h⟩
 exact Yj I3 () h
 refine Zo (Zm (Zi (.bool (((c11.toNat : Int) : Int) == 10)) (Za (GL.nil (Yd h (fun hc20 h => ?_) fun hc20 h => ?_)))))
 refine GC.region (Zm (Zc h Ql ?_))
 rintro _ H23 ⟨r21, r22, rfl, h⟩
 exact Yj I3 () h
 refine Zo (Zm (Zi (.bool (((c11.toNat : Int) : Int) == 9)) (Za (GL.nil (Yd h (fun hc24 h => ?_) fun hc24 h => ?_)))))
 refine GC.region (Zm (Zc h Ql ?_))
 rintro _ H27 ⟨r25, r26, rfl, h⟩
 exact Yj I3 () h
 refine Zo (Zm (Zi (.bool (decide (((c11.toNat : Int) : Int) ≥ 32))) (Zm (GL.cut0 3 [(56, .bool ((decide (((c11.toNat : Int) : Int) ≥ 32)) && (decide (((c11.toNat : Int) : Int) ≤ 126)))), (0, pv p_b), (1, sv p_s), (5, .int .u8 (c11.toNat : Int)), (9, .int .i64 (List.length p_s : Int)), (10, .int .i64 x3)] ?_ ?_))))
 rcases Zb (decide (((c11.toNat : Int) : Int) ≥ 32)) with hc28 | hc28
 refine Zu hc28 Ym (Zu hc28 (OV.ibin (v := .bool (decide (((c11.toNat : Int) : Int) ≤ 126))) rfl rfl rfl) (Zt hc28 ?_))
 exact GL.jump0 (fun _ _ h => h) () rfl ⟨(by rw [hc28]; rfl), rfl, rfl, rfl, rfl, rfl, trivial⟩
 refine Zk hc28 (Zk hc28 (Zn hc28 ?_))
 exact GL.jump0 (fun _ _ h => h) () rfl ⟨(by rw [hc28]; rfl), rfl, rfl, rfl, rfl, rfl, trivial⟩
 refine Za (GL.nil (Yd h (fun hc29 h => ?_) fun hc29 h => ?_))
 refine GC.region (Zm (Zm (Zc h Qj ?_)))
 rintro _ H31 ⟨r30, rfl, h⟩
 exact Yj I3 () h
 refine Zo (Zm (Zc h Ql ?_))
 rintro _ H34 ⟨r32, r33, rfl, h⟩
 refine GL.nil (Zo (Zm (Zm (Zv (OV.shr rfl rfl (by decide)) (Ys h fun c35 h => ?_)))))
 refine Zc h Qj ?_
 rintro _ H39 ⟨r38, rfl, h⟩
 refine GL.nil (GC.region (Zm (Zm (Zi (.int .u8 (bAnd .u8 (c11.toNat : Int) 15)) (Ys h fun c40 h => ?_)))))
 refine Zc h Qj ?_
 rintro _ H44 ⟨r43, rfl, h⟩
 exact Yj I3 () h
 intro x8 H9 h
 replace h := hR10 x8 H9 h
 refine GC.region (Zi (.int .i64 (w .i64 (x3 + 1))) (Zm ?_))
 exact Yj I3 (w .i64 (x3 + 1)) h
 refine GC.exit_to (fun _ _ h => h) (GC.region (Zm (Zc h Qj ?_)))
 rintro _ H46 ⟨r45, rfl, h⟩
 exact GL.ends (fun _ _ hf hs => Qy rfl hf hs ⟨rfl, h⟩)
def Qbg (C : Ctx) (p_b : Option (Nat × Nat)) (K : Str → Heap → Prop) (H : Heap) : Prop :=
 dr H fun Hs1 =>
 nck p_b fun p3 =>
 ldL Hs1 (p3.1, p3.2 + 1) fun x5 =>
 ((Sl.p x5 = none ∨ Sl.cap x5 ≠ 0) ∧ Sl.x x5 = none) ∧
 nck p_b fun p9 =>
 ldL Hs1 (p9.1, p9.2 + 1) fun x11 =>
 ust 5 (Sl.p x5) (Sl.len x11 : Int) (fun r14 H15 =>
 Heap.le Hs1 H15 ∧
 K r14 H15) H
theorem Qc3 (C p_b K H) (h : Qbg C p_b K H) : Qr C p_b K H := by
 refine Ye Tryz.func102 rfl Tryz.ntmps102 [(0, pv p_b)] (Zo (Za (GL.nil (GC.seq ?_))))
 obtain ⟨Hs1, hle2, h⟩ := h
 refine GC.any (Hs := Hs1) (by kernel_rfl) hle2 (Zp 0 rfl Ym ?_)
 obtain ⟨p3, hp4, h⟩ := h
 refine Zp 1 rfl (OV.nilCheck (q := p_b) rfl hp4) (Zp 2 rfl Yf ?_)
 obtain ⟨x5, v6, h⟩ := h
 refine Zp 3 rfl (Yo v6) ?_
 obtain ⟨⟨h7, h8⟩, h⟩ := h
 refine Zp 4 rfl (OV.usd (s := x5) h7 h8 rfl) (Zp 5 rfl Ym ?_)
 obtain ⟨p9, hp10, h⟩ := h
 refine Zp 6 rfl (OV.nilCheck (q := p_b) rfl hp10) (Zp 7 rfl Yf ?_)
 obtain ⟨x11, v12, h⟩ := h
 refine Zp 8 rfl (Yo v12) (Zp 9 rfl (OV.lenSl rfl rfl) (GA.eff 10 rfl (by kernel_rfl) (GL.ust (e := 5) (p := (Sl.p x5)) (m := (Sl.len x11 : Int)) h trivial rfl rfl rfl rfl (by kernel_rfl) ?_)))
 intro r14 H15 h
 obtain ⟨hle13, h⟩ := h
 refine GA.back hle13 (Zp 11 rfl Ya (GA.done (by kernel_rfl) (GL.nil ?_)))
 exact Y1 I3 ⟨r14, rfl, h⟩
def QgP (C : Ctx) (p_a : Qb) (p_b : Qb) (K : Int → Heap → Prop) (H : Heap) : Prop :=
 nw (Qb.c p_a) (fun b1 H2 =>
 nw (Qb.c p_b) (fun b3 H4 =>
 lp (α := Int) 0 H4 (fun x5 J6 H7 =>
 ldS H7 ((b1, 0).1, (b1, 0).2 + 0) fun x8 =>
 jn (α := Bool) (fun b10 H16 =>
 ift b10
 (ldS H16 ((b1, 0).1, (b1, 0).2 + 0) fun x18 =>
 ixs x18 x5 fun c20 =>
 ldS H16 ((b3, 0).1, (b3, 0).2 + 0) fun x23 =>
 ixs x23 x5 fun c25 =>
 ift (decide (((c20.toNat : Int) : Int) < (c25.toNat : Int)))
 (K (-1) H16)
 (ldS H16 ((b1, 0).1, (b1, 0).2 + 0) fun x29 =>
 ixs x29 x5 fun c31 =>
 ldS H16 ((b3, 0).1, (b3, 0).2 + 0) fun x34 =>
 ixs x34 x5 fun c36 =>
 ift (decide (((c31.toNat : Int) : Int) > (c36.toNat : Int)))
 (K 1 H16)
 (J6 (w .i64 (x5 + 1)) H16)))
 (ldS H16 ((b1, 0).1, (b1, 0).2 + 0) fun x40 =>
 ldS H16 ((b3, 0).1, (b3, 0).2 + 0) fun x42 =>
 ift (decide (((List.length x40 : Int) : Int) < (List.length x42 : Int)))
 (K (-1) H16)
 (ldS H16 ((b1, 0).1, (b1, 0).2 + 0) fun x45 =>
 ldS H16 ((b3, 0).1, (b3, 0).2 + 0) fun x47 =>
 ift (decide (((List.length x45 : Int) : Int) > (List.length x47 : Int)))
 (K 1 H16)
 (ldL H16 ((b1, 0).1, (b1, 0).2 + 1) fun x50 =>
 ldL H16 ((b3, 0).1, (b3, 0).2 + 1) fun x52 =>
 Qcw C x50 x52 (fun r54 H55 =>
 K r54 H55) H16))))
 (fun J11 => ift (decide ((x5 : Int) < (List.length x8 : Int)))
 (ldS H7 ((b3, 0).1, (b3, 0).2 + 0) fun x14 =>
 J11 (decide ((x5 : Int) < (List.length x14 : Int))) H7)
 (J11 false H7)))) H2) H
theorem Qjz (C p_a p_b K H) (h : QgP C p_a p_b K H) : Qcx C p_a p_b K H := by
 refine Ye Tryz.func103 rfl Tryz.ntmps103 [(0, .agg (Qb.c p_a).toArray), (1, .agg (Qb.c p_b).toArray)] (Zo (GL.box (v := .agg (Qb.c p_a).toArray) (cs := Qb.c p_a) h trivial rfl rfl rfl ?_))
 intro b1 H2 h
 refine GL.box (v := .agg (Qb.c p_b).toArray) (cs := Qb.c p_b) h trivial rfl rfl rfl ?_
 intro b3 H4 h
 refine Za (GL.nil (GC.seq (Zo (Za (GL.nil (GC.block (Yp h (fun x5 => [(5, .int .i64 x5), (2, pv (some (b1, 0))), (3, pv (some (b3, 0)))]) ?_)))))))
 intro x5 H7 J6 h
 refine GC.seq (Zo (Zm (Zf (Yl h fun x8 h => ?_))))
 refine Zr (Zi (.bool (decide ((x5 : Int) < (List.length x8 : Int)))) (Zm ?_))
 obtain ⟨J11, h, hR12⟩ := h
 refine GL.cut (α := Bool) 6 J11 (fun b10 => [(17, .bool b10), (2, pv (some (b1, 0))), (3, pv (some (b3, 0))), (5, .int .i64 x5)]) ?_ ?_
 rcases h.em with ⟨u13, h⟩ | ⟨u13, h⟩
 refine Zu u13 Ym (Zu u13 Yf ?_)
 obtain ⟨x14, v15, h⟩ := h
 refine Zu u13 (Yo v15) (Zu u13 (OV.lenStr rfl rfl) (Zu u13 (OV.ibin (v := .bool (decide ((x5 : Int) < (List.length x14 : Int)))) rfl rfl rfl) (Zt u13 ?_)))
 exact Yj I3 (decide ((x5 : Int) < (List.length x14 : Int))) h
 refine Zk u13 (Zk u13 (Zk u13 (Zk u13 (Zk u13 (Zn u13 ?_)))))
 exact Yj I3 false h
 intro b10 H16 h
 replace h := hR12 b10 H16 h
 refine GL.nil (Yd h (fun u17 h => ?_) fun u17 h => ?_)
 refine GC.skip (GC.seq (GC.block (GC.seq (GC.seq (GC.draw (by kernel_rfl) (by kernel_rfl) (GQ.val trivial rfl (OV.fieldAddr (p := (b1, 0)) rfl rfl) ?_))))))
 obtain ⟨x18, v19, h⟩ := h
 refine GQ.val trivial rfl (OV.load (p := ((b1, 0).1, (b1, 0).2 + 0)) rfl rfl v19) (GQ.val trivial rfl (OV.move (v := .int .i64 x5) rfl) ?_)
 obtain ⟨c20, ha21, hb22, h⟩ := h
 refine GQ.val trivial rfl (OV.indexStr (s := x18) rfl rfl rfl ha21 hb22) (GQ.val trivial rfl (OV.fieldAddr (p := (b3, 0)) rfl rfl) ?_)
 obtain ⟨x23, v24, h⟩ := h
 refine GQ.val trivial rfl (OV.load (p := ((b3, 0).1, (b3, 0).2 + 0)) rfl rfl v24) (GQ.val trivial rfl (OV.move (v := .int .i64 x5) rfl) ?_)
 obtain ⟨c25, ha26, hb27, h⟩ := h
 refine GQ.val trivial rfl (OV.indexStr (s := x23) rfl rfl rfl ha26 hb27) (GQ.val trivial rfl (OV.ibin (v := .bool (decide (((c20.toNat : Int) : Int) < (c25.toNat : Int)))) rfl rfl rfl) (GQ.nil (GL.nil (Yd h (fun u28 h => ?_) fun u28 h => ?_))))
 refine Zo (Za (GL.nil ?_))
 exact Y1 I3 ⟨(-1), rfl, h⟩
 refine GC.skip (GC.seq (GC.draw (by kernel_rfl) (by kernel_rfl) (GQ.val trivial rfl (OV.fieldAddr (p := (b1, 0)) rfl rfl) ?_)))
 obtain ⟨x29, v30, h⟩ := h
 refine GQ.val trivial rfl (OV.load (p := ((b1, 0).1, (b1, 0).2 + 0)) rfl rfl v30) (GQ.val trivial rfl (OV.move (v := .int .i64 x5) rfl) ?_)
 obtain ⟨c31, ha32, hb33, h⟩ := h
 refine GQ.val trivial rfl (OV.indexStr (s := x29) rfl rfl rfl ha32 hb33) (GQ.val trivial rfl (OV.fieldAddr (p := (b3, 0)) rfl rfl) ?_)
 obtain ⟨x34, v35, h⟩ := h
 refine GQ.val trivial rfl (OV.load (p := ((b3, 0).1, (b3, 0).2 + 0)) rfl rfl v35) (GQ.val trivial rfl (OV.move (v := .int .i64 x5) rfl) ?_)
 obtain ⟨c36, ha37, hb38, h⟩ := h
 refine GQ.val trivial rfl (OV.indexStr (s := x34) rfl rfl rfl ha37 hb38) (GQ.val trivial rfl (OV.ibin (v := .bool (decide (((c31.toNat : Int) : Int) > (c36.toNat : Int)))) rfl rfl rfl) (GQ.nil (GL.nil (Yd h (fun u39 h => ?_) fun u39 h => ?_))))
 refine Zo (Za (GL.nil ?_))
 exact Y1 I3 ⟨1, rfl, h⟩
 refine GC.skip_to (fun _ _ h => h) (GC.region (Zm (Zi (.int .i64 (w .i64 (x5 + 1))) (Za ?_))))
 exact Yj I3 (w .i64 (x5 + 1)) h
 refine GC.exit_to (fun _ _ h => h) (GC.seq (Zo (Zf ?_)))
 refine Yl h fun x40 h => ?_
 refine Zr (Zf (Yl h fun x42 h => ?_))
 refine Zr (Zi (.bool (decide (((List.length x40 : Int) : Int) < (List.length x42 : Int)))) (GL.nil (Yd h (fun u44 h => ?_) fun u44 h => ?_)))
 refine Zo (Za (GL.nil ?_))
 exact Y1 I3 ⟨(-1), rfl, h⟩
 refine GC.skip (GC.seq (Zo (Zf (Yl h fun x45 h => ?_))))
 refine Zr (Zf (Yl h fun x47 h => ?_))
 refine Zr (Zi (.bool (decide (((List.length x45 : Int) : Int) > (List.length x47 : Int)))) (GL.nil (Yd h (fun u49 h => ?_) fun u49 h => ?_)))
 refine Zo (Za (GL.nil ?_))
 exact Y1 I3 ⟨1, rfl, h⟩
 refine GC.skip (Zo (Zf (Yl h fun x50 h => ?_)))
 refine Zf (Yl h fun x52 h => ?_)
 refine Zc h Qg5 ?_
 rintro _ H55 ⟨r54, rfl, h⟩
 refine Za (GL.nil ?_)
 exact Y1 I3 ⟨r54, rfl, h⟩
def Qfd (C : Ctx) (p_v : Qa) (K : Int → Heap → Prop) (H : Heap) : Prop :=
 nw (Qa.c p_v) (fun b1 H2 =>
 lp (α := Int × Int) (0, 0) H2 (fun x3 J4 H5 =>
 ldL H5 ((b1, 0).1, (b1, 0).2 + 3) fun x6 =>
 ift (decide ((x3.2 : Int) < (Sl.len x6 : Int)))
 (ldL H5 ((b1, 0).1, (b1, 0).2 + 3) fun x9 =>
 ixa x9 x3.2 fun p11 =>
 ldT H5 Qa.c (p11.1, p11.2 + (x3.2 : Int).toNat * 4) fun x16 =>
 QY C x16 (fun r18 H19 =>
 J4 ((if r18 > x3.1 then r18 else x3.1 : Int), (w .i64 (x3.2 + 1))) H19) H5)
 (K (w .i64 (x3.1 + 1)) H5))) H
theorem Qid (C p_v K H) (h : Qfd C p_v K H) : QY C p_v K H := by
 refine Ye Tryz.func121 rfl Tryz.ntmps121 [(0, .agg (Qa.c p_v).toArray)] (Zo (GL.box (v := .agg (Qa.c p_v).toArray) (cs := Qa.c p_v) h trivial rfl rfl rfl ?_))
 intro b1 H2 h
 refine Za (GL.nil (Zo (Za (GL.nil (GC.seq (Zo (Za (GL.nil (GC.block (Yp h (fun x3 => [(3, .int .i64 x3.1), (4, .int .i64 x3.2), (1, pv (some (b1, 0)))]) ?_))))))))))
 intro x3 H5 J4 h
 refine GC.seq (Zo (Zm (Zf (Yl h fun x6 h => ?_))))
 refine Zq (Zi (.bool (decide ((x3.2 : Int) < (Sl.len x6 : Int)))) (GL.nil (Yd h (fun u8 h => ?_) fun u8 h => ?_)))
 refine GC.skip (GC.seq (GC.block (GC.region (Zm (Zf (Yl h fun x9 h => ?_))))))
 refine Zm (Yx h fun p11 h => ?_)
 obtain ⟨x16, v17, h⟩ := h
 refine Zv (OV.loadT rfl rfl rfl v17) (Zc h Qe5 ?_)
 rintro _ H19 ⟨r18, rfl, h⟩
 refine Zv (OV.maxI rfl rfl) (Za (GL.nil_to (fun _ _ h => h) (GC.region (Zm (Zi (.int .i64 (w .i64 (x3.2 + 1))) (Za ?_))))))
 exact Yj I3 ((if r18 > x3.1 then r18 else x3.1 : Int), (w .i64 (x3.2 + 1))) h
 refine GC.exit_to (fun _ _ h => h) (Zo (Zm (Zi (.int .i64 (w .i64 (x3.1 + 1))) (Za (GL.nil ?_)))))
 exact Y1 I3 ⟨(w .i64 (x3.1 + 1)), rfl, h⟩
def Qf8 (C : Ctx) (p_v : Qa) (K : Bool → Heap → Prop) (H : Heap) : Prop :=
 nw (Qa.c p_v) (fun b1 H2 =>
 jn (α := Bool) (fun x4 H5 =>
 lp (α := Bool × Int) (x4, 0) H5 (fun x101 J102 H103 =>
 ldL H103 ((b1, 0).1, (b1, 0).2 + 3) fun x104 =>
 ift ((decide ((x101.2 : Int) < (Sl.len x104 : Int))) && x101.1)
 (ldL H103 ((b1, 0).1, (b1, 0).2 + 3) fun x108 =>
 ixa x108 x101.2 fun p110 =>
 ldT H103 Qa.c (p110.1, p110.2 + (x101.2 : Int).toNat * 4) fun x115 =>
 Q9 C x115 (fun r117 H118 =>
 J102 (r117, (w .i64 (x101.2 + 1))) H118) H103)
 (K x101.1 H103)))
 (fun J3 => ldI H2 .u8 ((b1, 0).1, (b1, 0).2 + 0) fun x7 =>
 ift ((x7 : Int) == 1)
 (ldI H2 .i64 ((b1, 0).1, (b1, 0).2 + 1) fun x10 =>
 jn (α := Bool) (fun b12 H18 =>
 jn (α := Bool) (fun b19 H25 =>
 jn (α := Bool) (fun b26 H32 =>
 J3 b26 H32)
 (fun J27 => ift b19
 (ldL H25 ((b1, 0).1, (b1, 0).2 + 3) fun x30 =>
 J27 (((Sl.len x30 : Int) : Int) == 0) H25)
 (J27 false H25)))
 (fun J20 => ift b12
 (ldS H18 ((b1, 0).1, (b1, 0).2 + 2) fun x23 =>
 J20 (x23 == ([] : Str)) H18)
 (J20 false H18)))
 (fun J13 => ift ((x10 : Int) == 0)
 (J13 true H2)
 (ldI H2 .i64 ((b1, 0).1, (b1, 0).2 + 1) fun x16 =>
 J13 ((x16 : Int) == 1) H2)))
 (ift ((x7 : Int) == 2)
 (ldS H2 ((b1, 0).1, (b1, 0).2 + 2) fun x34 =>
 jn (α := Bool) (fun b36 H42 =>
 J3 b36 H42)
 (fun J37 => ift (x34 == ([] : Str))
 (ldL H2 ((b1, 0).1, (b1, 0).2 + 3) fun x40 =>
 J37 (((Sl.len x40 : Int) : Int) == 0) H2)
 (J37 false H2)))
 (ift ((x7 : Int) == 3)
 (ldI H2 .i64 ((b1, 0).1, (b1, 0).2 + 1) fun x44 =>
 jn (α := Bool) (fun b46 H52 =>
 jn (α := Bool) (fun b53 H61 =>
 J3 b53 H61)
 (fun J54 => ift b46
 (ldS H52 ((b1, 0).1, (b1, 0).2 + 2) fun x57 =>
 Qc6 C x57 (fun r59 H60 =>
 J54 r59 H60) H52)
 (J54 false H52)))
 (fun J47 => ift ((x44 : Int) == 0)
 (ldL H2 ((b1, 0).1, (b1, 0).2 + 3) fun x50 =>
 J47 (((Sl.len x50 : Int) : Int) == 0) H2)
 (J47 false H2)))
 (ift ((x7 : Int) == 4)
 (ldI H2 .i64 ((b1, 0).1, (b1, 0).2 + 1) fun x63 =>
 jn (α := Bool) (fun b65 H71 =>
 J3 b65 H71)
 (fun J66 => ift ((x63 : Int) == 0)
 (ldL H2 ((b1, 0).1, (b1, 0).2 + 3) fun x69 =>
 J66 (((Sl.len x69 : Int) : Int) == 0) H2)
 (J66 false H2)))
 (ift ((x7 : Int) == 5)
 (ldI H2 .i64 ((b1, 0).1, (b1, 0).2 + 1) fun x73 =>
 jn (α := Bool) (fun b75 H81 =>
 jn (α := Bool) (fun b82 H88 =>
 J3 b82 H88)
 (fun J83 => ift b75
 (ldL H81 ((b1, 0).1, (b1, 0).2 + 3) fun x86 =>
 J83 (((Sl.len x86 : Int) : Int) != 1) H81)
 (J83 false H81)))
 (fun J76 => ift ((x73 : Int) == 0)
 (ldS H2 ((b1, 0).1, (b1, 0).2 + 2) fun x79 =>
 J76 (x79 == ([] : Str)) H2)
 (J76 false H2)))
 (ift ((x7 : Int) == 6)
 (ldI H2 .i64 ((b1, 0).1, (b1, 0).2 + 1) fun x90 =>
 jn (α := Bool) (fun b92 H100 =>
 J3 b92 H100)
 (fun J93 => ift ((x90 : Int) == 0)
 (ldS H2 ((b1, 0).1, (b1, 0).2 + 2) fun x96 =>
 QdF C x96 (fun r98 H99 =>
 J93 r98 H99) H2)
 (J93 false H2)))
 (J3 false H2)))))))) H
theorem QiR (C p_v K H) (h : Qf8 C p_v K H) : Q9 C p_v K H := by
 refine Ye Tryz.func122 rfl Tryz.ntmps122 [(0, .agg (Qa.c p_v).toArray)] (Zo (GL.box (v := .agg (Qa.c p_v).toArray) (cs := Qa.c p_v) h trivial rfl rfl rfl ?_))
 intro b1 H2 h
 refine Za (GL.nil (Zo (Za (GL.nil ?_))))
 obtain ⟨J3, h, hR6⟩ := h
 refine GC.join (α := Bool) J3 (fun x4 => [(3, .bool x4), (1, pv (some (b1, 0)))]) ?_ ?_
 refine Zo (Zf (Yl h fun x7 h => ?_))
 refine GL.nil (GC.block (Zo (Zi (.bool ((x7 : Int) == 1)) (Za (GL.nil (Yd h (fun u9 h => ?_) fun u9 h => ?_))))))
 refine GC.region (Zf (Yl h fun x10 h => ?_))
 refine Zi (.bool ((x10 : Int) == 0)) (Zm ?_)
 obtain ⟨J13, h, hR14⟩ := h
 refine GL.cut (α := Bool) 4 J13 (fun b12 => [(16, .bool b12), (1, pv (some (b1, 0)))]) ?_ ?_
 rcases h.em with ⟨u15, h⟩ | ⟨u15, h⟩
 refine Zk u15 (Zk u15 (Zk u15 (Zt u15 ?_)))
 exact Yj I3 true h
 refine Zu u15 Yf ?_
 obtain ⟨x16, v17, h⟩ := h
 refine Zu u15 (Yo v17) (Zu u15 (OV.ibin (v := .bool ((x16 : Int) == 1)) rfl rfl rfl) (Zn u15 ?_))
 exact Yj I3 ((x16 : Int) == 1) h
 intro b12 H18 h
 replace h := hR14 b12 H18 h
 refine Zm ?_
 obtain ⟨J20, h, hR21⟩ := h
 refine GL.cut (α := Bool) 4 J20 (fun b19 => [(21, .bool b19), (1, pv (some (b1, 0)))]) ?_ ?_
 rcases h.em with ⟨u22, h⟩ | ⟨u22, h⟩
 refine Zu u22 Yf ?_
 obtain ⟨x23, v24, h⟩ := h
 refine Zu u22 (Yo v24) (Zu u22 (OV.sbin (a := x23) (b := ([] : Str)) (v := .bool (x23 == ([] : Str))) rfl rfl rfl) (Zt u22 ?_))
 exact Yj I3 (x23 == ([] : Str)) h
 refine Zk u22 (Zk u22 (Zk u22 (Zn u22 ?_)))
 exact Yj I3 false h
 intro b19 H25 h
 replace h := hR21 b19 H25 h
 refine Zm ?_
 obtain ⟨J27, h, hR28⟩ := h
 refine GL.cut (α := Bool) 5 J27 (fun b26 => [(27, .bool b26), (1, pv (some (b1, 0)))]) ?_ ?_
 rcases h.em with ⟨u29, h⟩ | ⟨u29, h⟩
 refine Zu u29 Yf ?_
 obtain ⟨x30, v31, h⟩ := h
 refine Zu u29 (Yo v31) (Zu u29 (OV.lenSl rfl rfl) (Zu u29 (OV.ibin (v := .bool (((Sl.len x30 : Int) : Int) == 0)) rfl rfl rfl) (Zt u29 ?_)))
 exact Yj I3 (((Sl.len x30 : Int) : Int) == 0) h
 refine Zk u29 (Zk u29 (Zk u29 (Zk u29 (Zn u29 ?_))))
 exact Yj I3 false h
 intro b26 H32 h
 replace h := hR28 b26 H32 h
 refine Za ?_
 exact Yj I3 b26 h
 refine Zo (Zi (.bool ((x7 : Int) == 2)) (Za (GL.nil (Yd h (fun u33 h => ?_) fun u33 h => ?_))))
 refine GC.region (Zf (Yl h fun x34 h => ?_))
 refine Zv (OV.sbin (a := x34) (b := ([] : Str)) (v := .bool (x34 == ([] : Str))) rfl rfl rfl) (Zm ?_)
 obtain ⟨J37, h, hR38⟩ := h
 refine GL.cut (α := Bool) 5 J37 (fun b36 => [(38, .bool b36), (1, pv (some (b1, 0)))]) ?_ ?_
 rcases h.em with ⟨u39, h⟩ | ⟨u39, h⟩
 refine Zu u39 Yf ?_
 obtain ⟨x40, v41, h⟩ := h
 refine Zu u39 (Yo v41) (Zu u39 (OV.lenSl rfl rfl) (Zu u39 (OV.ibin (v := .bool (((Sl.len x40 : Int) : Int) == 0)) rfl rfl rfl) (Zt u39 ?_)))
 exact Yj I3 (((Sl.len x40 : Int) : Int) == 0) h
 refine Zk u39 (Zk u39 (Zk u39 (Zk u39 (Zn u39 ?_))))
 exact Yj I3 false h
 intro b36 H42 h
 replace h := hR38 b36 H42 h
 refine Za ?_
 exact Yj I3 b36 h
 refine Zo (Zi (.bool ((x7 : Int) == 3)) (Za (GL.nil (Yd h (fun u43 h => ?_) fun u43 h => ?_))))
 refine GC.region (Zf (Yl h fun x44 h => ?_))
 refine Zi (.bool ((x44 : Int) == 0)) (Zm ?_)
 obtain ⟨J47, h, hR48⟩ := h
 refine GL.cut (α := Bool) 5 J47 (fun b46 => [(49, .bool b46), (1, pv (some (b1, 0)))]) ?_ ?_
 rcases h.em with ⟨u49, h⟩ | ⟨u49, h⟩
 refine Zu u49 Yf ?_
 obtain ⟨x50, v51, h⟩ := h
 refine Zu u49 (Yo v51) (Zu u49 (OV.lenSl rfl rfl) (Zu u49 (OV.ibin (v := .bool (((Sl.len x50 : Int) : Int) == 0)) rfl rfl rfl) (Zt u49 ?_)))
 exact Yj I3 (((Sl.len x50 : Int) : Int) == 0) h
 refine Zk u49 (Zk u49 (Zk u49 (Zk u49 (Zn u49 ?_))))
 exact Yj I3 false h
 intro b46 H52 h
 replace h := hR48 b46 H52 h
 refine Zm ?_
 obtain ⟨J54, h, hR55⟩ := h
 refine GL.cut (α := Bool) 4 J54 (fun b53 => [(54, .bool b53), (1, pv (some (b1, 0)))]) ?_ ?_
 rcases h.em with ⟨u56, h⟩ | ⟨u56, h⟩
 refine Zu u56 Yf ?_
 obtain ⟨x57, v58, h⟩ := h
 refine Zu u56 (Yo v58) (GL.call h (Yt u56) rfl QhI (vs := [sv x57]) rfl ?_)
 rintro _ H60 ⟨r59, rfl, h⟩
 refine Zt u56 ?_
 exact Yj I3 r59 h
 refine Zk u56 (Zk u56 (Zk u56 (Zn u56 ?_)))
 exact Yj I3 false h
 intro b53 H61 h
 replace h := hR55 b53 H61 h
 refine Za ?_
 exact Yj I3 b53 h
 refine Zo (Zi (.bool ((x7 : Int) == 4)) (Za (GL.nil (Yd h (fun u62 h => ?_) fun u62 h => ?_))))
 refine GC.region (Zf (Yl h fun x63 h => ?_))
 refine Zi (.bool ((x63 : Int) == 0)) (Zm ?_)
 obtain ⟨J66, h, hR67⟩ := h
 refine GL.cut (α := Bool) 5 J66 (fun b65 => [(65, .bool b65), (1, pv (some (b1, 0)))]) ?_ ?_
 rcases h.em with ⟨u68, h⟩ | ⟨u68, h⟩
 refine Zu u68 Yf ?_
 obtain ⟨x69, v70, h⟩ := h
 refine Zu u68 (Yo v70) (Zu u68 (OV.lenSl rfl rfl) (Zu u68 (OV.ibin (v := .bool (((Sl.len x69 : Int) : Int) == 0)) rfl rfl rfl) (Zt u68 ?_)))
 exact Yj I3 (((Sl.len x69 : Int) : Int) == 0) h
 refine Zk u68 (Zk u68 (Zk u68 (Zk u68 (Zn u68 ?_))))
 exact Yj I3 false h
 intro b65 H71 h
 replace h := hR67 b65 H71 h
 refine Za ?_
 exact Yj I3 b65 h
 refine Zo (Zi (.bool ((x7 : Int) == 5)) (Za (GL.nil (Yd h (fun u72 h => ?_) fun u72 h => ?_))))
 refine GC.region (Zf (Yl h fun x73 h => ?_))
 refine Zi (.bool ((x73 : Int) == 0)) (Zm ?_)
 obtain ⟨J76, h, hR77⟩ := h
 refine GL.cut (α := Bool) 4 J76 (fun b75 => [(75, .bool b75), (1, pv (some (b1, 0)))]) ?_ ?_
 rcases h.em with ⟨u78, h⟩ | ⟨u78, h⟩
 refine Zu u78 Yf ?_
 obtain ⟨x79, v80, h⟩ := h
 refine Zu u78 (Yo v80) (Zu u78 (OV.sbin (a := x79) (b := ([] : Str)) (v := .bool (x79 == ([] : Str))) rfl rfl rfl) (Zt u78 ?_))
 exact Yj I3 (x79 == ([] : Str)) h
 refine Zk u78 (Zk u78 (Zk u78 (Zn u78 ?_)))
 exact Yj I3 false h
 intro b75 H81 h
 replace h := hR77 b75 H81 h
 refine Zm ?_
 obtain ⟨J83, h, hR84⟩ := h
 refine GL.cut (α := Bool) 5 J83 (fun b82 => [(81, .bool b82), (1, pv (some (b1, 0)))]) ?_ ?_
 rcases h.em with ⟨u85, h⟩ | ⟨u85, h⟩
 refine Zu u85 Yf ?_
 obtain ⟨x86, v87, h⟩ := h
 refine Zu u85 (Yo v87) (Zu u85 (OV.lenSl rfl rfl) (Zu u85 (OV.ibin (v := .bool (((Sl.len x86 : Int) : Int) != 1)) rfl rfl rfl) (Zt u85 ?_)))
 exact Yj I3 (((Sl.len x86 : Int) : Int) != 1) h
 refine Zk u85 (Zk u85 (Zk u85 (Zk u85 (Zn u85 ?_))))
 exact Yj I3 false h
 intro b82 H88 h
 replace h := hR84 b82 H88 h
 refine Za ?_
 exact Yj I3 b82 h
 refine Zo (Zi (.bool ((x7 : Int) == 6)) (Za (GL.nil (Yd h (fun u89 h => ?_) fun u89 h => ?_))))
 refine GC.region (Zf (Yl h fun x90 h => ?_))
 refine Zi (.bool ((x90 : Int) == 0)) (Zm ?_)
 obtain ⟨J93, h, hR94⟩ := h
 refine GL.cut (α := Bool) 4 J93 (fun b92 => [(91, .bool b92), (1, pv (some (b1, 0)))]) ?_ ?_
 rcases h.em with ⟨u95, h⟩ | ⟨u95, h⟩
 refine Zu u95 Yf ?_
 obtain ⟨x96, v97, h⟩ := h
 refine Zu u95 (Yo v97) (GL.call h (Yt u95) rfl Qip (vs := [sv x96]) rfl ?_)
 rintro _ H99 ⟨r98, rfl, h⟩
 refine Zt u95 ?_
 exact Yj I3 r98 h
 refine Zk u95 (Zk u95 (Zk u95 (Zn u95 ?_)))
 exact Yj I3 false h
 intro b92 H100 h
 replace h := hR94 b92 H100 h
 refine Za ?_
 exact Yj I3 b92 h
 exact Yk I3 false h
 intro x4 H5 h
 replace h := hR6 x4 H5 h
 refine GC.seq (Zo (Za (GL.nil (GC.block (Yp h (fun x101 => [(3, .bool x101.1), (4, .int .i64 x101.2), (1, pv (some (b1, 0)))]) ?_)))))
 intro x101 H103 J102 h
 refine GC.seq (Zo (Zm (Zf (Yl h fun x104 h => ?_))))
 refine Zq (Zi (.bool (decide ((x101.2 : Int) < (Sl.len x104 : Int)))) (Zm (GL.cut0 2 [(99, .bool ((decide ((x101.2 : Int) < (Sl.len x104 : Int))) && x101.1)), (1, pv (some (b1, 0))), (3, .bool x101.1), (4, .int .i64 x101.2)] ?_ ?_)))
 rcases Zb (decide ((x101.2 : Int) < (Sl.len x104 : Int))) with u106 | u106
 refine Zu u106 Ym (Zt u106 ?_)
 exact GL.jump0 (fun _ _ h => h) () rfl ⟨(by rw [u106]; rfl), rfl, rfl, rfl, trivial⟩
 refine Zk u106 (Zn u106 ?_)
 exact GL.jump0 (fun _ _ h => h) () rfl ⟨(by rw [u106]; rfl), rfl, rfl, rfl, trivial⟩
 refine GL.nil (Yd h (fun u107 h => ?_) fun u107 h => ?_)
 refine GC.skip (GC.seq (GC.block (GC.region (Zf (Yl h fun x108 h => ?_)))))
 refine Zm (Yx h fun p110 h => ?_)
 obtain ⟨x115, v116, h⟩ := h
 refine Zv (OV.loadT rfl rfl rfl v116) (Zc h QfW ?_)
 rintro _ H118 ⟨r117, rfl, h⟩
 refine Za (GL.nil_to (fun _ _ h => h) (GC.region (Zm (Zi (.int .i64 (w .i64 (x101.2 + 1))) (Za ?_)))))
 exact Yj I3 (r117, (w .i64 (x101.2 + 1))) h
 refine GC.exit_to (fun _ _ h => h) (Zo (Zm (Za (GL.nil ?_))))
 exact Y1 I3 ⟨x101.1, rfl, h⟩
def Qf7 (C : Ctx) (p_v : Qa) (K : Bool → Heap → Prop) (H : Heap) : Prop :=
 nw (Qa.c p_v) (fun b1 H2 =>
 jn (α := Bool) (fun x4 H5 =>
 lp (α := Bool × Int) (x4, 0) H5 (fun x23 J24 H25 =>
 ldL H25 ((b1, 0).1, (b1, 0).2 + 3) fun x26 =>
 ift ((decide ((x23.2 : Int) < (Sl.len x26 : Int))) && x23.1)
 (ldL H25 ((b1, 0).1, (b1, 0).2 + 3) fun x30 =>
 ixa x30 x23.2 fun p32 =>
 ldT H25 Qa.c (p32.1, p32.2 + (x23.2 : Int).toNat * 4) fun x37 =>
 Q8 C x37 (fun r39 H40 =>
 J24 (r39, (w .i64 (x23.2 + 1))) H40) H25)
 (K x23.1 H25)))
 (fun J3 => ldI H2 .u8 ((b1, 0).1, (b1, 0).2 + 0) fun x7 =>
 ift ((x7 : Int) == 3)
 (ldS H2 ((b1, 0).1, (b1, 0).2 + 2) fun x10 =>
 Qc5 C x10 (fun r12 H13 =>
 J3 (decide ((r12 : Int) ≤ 200)) H13) H2)
 (ift ((x7 : Int) == 4)
 (ldS H2 ((b1, 0).1, (b1, 0).2 + 2) fun x15 =>
 J3 (decide (((List.length x15 : Int) : Int) ≤ 4096)) H2)
 (ift ((x7 : Int) == 5)
 (ldL H2 ((b1, 0).1, (b1, 0).2 + 3) fun x18 =>
 J3 (decide (((Sl.len x18 : Int) : Int) ≤ 16)) H2)
 (ift ((x7 : Int) == 6)
 (ldL H2 ((b1, 0).1, (b1, 0).2 + 3) fun x21 =>
 J3 (decide (((Sl.len x21 : Int) : Int) ≤ 8)) H2)
 (J3 true H2)))))) H
theorem QiQ (C p_v K H) (h : Qf7 C p_v K H) : Q8 C p_v K H := by
 refine Ye Tryz.func123 rfl Tryz.ntmps123 [(0, .agg (Qa.c p_v).toArray)] (Zo (GL.box (v := .agg (Qa.c p_v).toArray) (cs := Qa.c p_v) h trivial rfl rfl rfl ?_))
 intro b1 H2 h
 refine Za (GL.nil (Zo (Za (GL.nil ?_))))
 obtain ⟨J3, h, hR6⟩ := h
 refine GC.join (α := Bool) J3 (fun x4 => [(3, .bool x4), (1, pv (some (b1, 0)))]) ?_ ?_
 refine Zo (Zf (Yl h fun x7 h => ?_))
 refine GL.nil (GC.block (Zo (Zi (.bool ((x7 : Int) == 3)) (Za (GL.nil (Yd h (fun u9 h => ?_) fun u9 h => ?_))))))
 refine GC.region (Zf (Yl h fun x10 h => ?_))
 refine Zc h QhH ?_
 rintro _ H13 ⟨r12, rfl, h⟩
 refine Zi (.bool (decide ((r12 : Int) ≤ 200))) (Za ?_)
 exact Yj I3 (decide ((r12 : Int) ≤ 200)) h
 refine Zo (Zi (.bool ((x7 : Int) == 4)) (Za (GL.nil (Yd h (fun u14 h => ?_) fun u14 h => ?_))))
 refine GC.region (Zf (Yl h fun x15 h => ?_))
 refine Zr (Zi (.bool (decide (((List.length x15 : Int) : Int) ≤ 4096))) (Za ?_))
 exact Yj I3 (decide (((List.length x15 : Int) : Int) ≤ 4096)) h
 refine Zo (Zi (.bool ((x7 : Int) == 5)) (Za (GL.nil (Yd h (fun u17 h => ?_) fun u17 h => ?_))))
 refine GC.region (Zf (Yl h fun x18 h => ?_))
 refine Zq (Zi (.bool (decide (((Sl.len x18 : Int) : Int) ≤ 16))) (Za ?_))
 exact Yj I3 (decide (((Sl.len x18 : Int) : Int) ≤ 16)) h
 refine Zo (Zi (.bool ((x7 : Int) == 6)) (Za (GL.nil (Yd h (fun u20 h => ?_) fun u20 h => ?_))))
 refine GC.region (Zf (Yl h fun x21 h => ?_))
 refine Zq (Zi (.bool (decide (((Sl.len x21 : Int) : Int) ≤ 8))) (Za ?_))
 exact Yj I3 (decide (((Sl.len x21 : Int) : Int) ≤ 8)) h
 exact Yk I3 true h
 intro x4 H5 h
 replace h := hR6 x4 H5 h
 refine GC.seq (Zo (Za (GL.nil (GC.block (Yp h (fun x23 => [(3, .bool x23.1), (4, .int .i64 x23.2), (1, pv (some (b1, 0)))]) ?_)))))
 intro x23 H25 J24 h
 refine GC.seq (Zo (Zm (Zf (Yl h fun x26 h => ?_))))
 refine Zq (Zi (.bool (decide ((x23.2 : Int) < (Sl.len x26 : Int)))) (Zm (GL.cut0 2 [(38, .bool ((decide ((x23.2 : Int) < (Sl.len x26 : Int))) && x23.1)), (1, pv (some (b1, 0))), (3, .bool x23.1), (4, .int .i64 x23.2)] ?_ ?_)))
 rcases Zb (decide ((x23.2 : Int) < (Sl.len x26 : Int))) with u28 | u28
 refine Zu u28 Ym (Zt u28 ?_)
 exact GL.jump0 (fun _ _ h => h) () rfl ⟨(by rw [u28]; rfl), rfl, rfl, rfl, trivial⟩
 refine Zk u28 (Zn u28 ?_)
 exact GL.jump0 (fun _ _ h => h) () rfl ⟨(by rw [u28]; rfl), rfl, rfl, rfl, trivial⟩
 refine GL.nil (Yd h (fun u29 h => ?_) fun u29 h => ?_)
 refine GC.skip (GC.seq (GC.block (GC.region (Zf (Yl h fun x30 h => ?_)))))
 refine Zm (Yx h fun p32 h => ?_)
 obtain ⟨x37, v38, h⟩ := h
 refine Zv (OV.loadT rfl rfl rfl v38) (Zc h QfV ?_)
 rintro _ H40 ⟨r39, rfl, h⟩
 refine Za (GL.nil_to (fun _ _ h => h) (GC.region (Zm (Zi (.int .i64 (w .i64 (x23.2 + 1))) (Za ?_)))))
 exact Yj I3 (r39, (w .i64 (x23.2 + 1))) h
 refine GC.exit_to (fun _ _ h => h) (Zo (Zm (Za (GL.nil ?_))))
 exact Y1 I3 ⟨x23.1, rfl, h⟩
def QdX (C : Ctx) (p_a : Str) (p_b : Str) (K : Int → Heap → Prop) (H : Heap) : Prop :=
 ixs p_a 0 fun c1 =>
 ixs p_b 0 fun c4 =>
 ift (!((((c1.toNat : Int) : Int) == 45) == (((c4.toNat : Int) : Int) == 45)))
 (ift (((c1.toNat : Int) : Int) == 45)
 (K (-1) H)
 (K 1 H))
 (ift (((c1.toNat : Int) : Int) == 45)
 (dr H fun Hs10 =>
 slS p_b 1 (List.length p_b : Int) fun t12 =>
 slS p_a 1 (List.length p_a : Int) fun t18 =>
 QbW C t12 t18 (fun r25 H26 =>
 Heap.le Hs10 H26 ∧
 K r25 H26) H)
 (ift (((List.length p_a : Int) : Int) != (List.length p_b : Int))
 (Qal C (List.length p_a : Int) (List.length p_b : Int) (fun r28 H29 =>
 K r28 H29) H)
 (QbE C p_a p_b (fun r30 H31 =>
 K r30 H31) H)))
theorem QfF (C p_a p_b K H) (h : QdX C p_a p_b K H) : QbW C p_a p_b K H := by
 refine Ye Tryz.func124 rfl Tryz.ntmps124 [(0, sv p_a), (1, sv p_b)] (Zo (Za (GL.nil (GC.seq (GC.draw (by kernel_rfl) (by kernel_rfl) (GQ.val trivial rfl (OV.move (v := sv p_a) rfl) ?_))))))
 obtain ⟨c1, ha2, hb3, h⟩ := h
 refine GQ.val trivial rfl (OV.indexStr (s := p_a) rfl rfl rfl ha2 hb3) (GQ.val trivial rfl (OV.ibin (v := .bool (((c1.toNat : Int) : Int) == 45)) rfl rfl rfl) (GQ.val trivial rfl (OV.move (v := sv p_b) rfl) ?_))
 obtain ⟨c4, ha5, hb6, h⟩ := h
 refine GQ.val trivial rfl (OV.indexStr (s := p_b) rfl rfl rfl ha5 hb6) (GQ.val trivial rfl (OV.ibin (v := .bool (((c4.toNat : Int) : Int) == 45)) rfl rfl rfl) (GQ.val trivial rfl (OV.assign (v := .bool (((c1.toNat : Int) : Int) == 45)) rfl) (GQ.val trivial rfl (OV.assign (v := .bool (((c4.toNat : Int) : Int) == 45)) rfl) (GQ.nil (GL.nil (GC.seq (Zo (Zm (Zm (Zv (OV.neqBool rfl rfl rfl) (GL.nil (Yd h (fun u7 h => ?_) fun u7 h => ?_))))))))))))
 refine GC.seq (Zo (Zm (GL.nil (Yd h (fun u8 h => ?_) fun u8 h => ?_))))
 refine Zo (Za (GL.nil ?_))
 exact Y1 I3 ⟨(-1), rfl, h⟩
 refine GC.skip (Zo (Za (GL.nil ?_)))
 exact Y1 I3 ⟨1, rfl, h⟩
 refine GC.skip (GC.seq (Zo (Zm (GL.nil (Yd h (fun u9 h => ?_) fun u9 h => ?_)))))
 refine GC.seq ?_
 obtain ⟨Hs10, hle11, h⟩ := h
 refine GC.any (Hs := Hs10) (by kernel_rfl) hle11 (Zp 0 rfl Ym ?_)
 obtain ⟨h13, h14, h15, t12, h16, h⟩ := h
 refine Zp 1 rfl (OV.sliceStr (s := p_b) h13 h14 h15 h16 rfl rfl rfl rfl rfl rfl) (Zp 2 rfl Ym ?_)
 obtain ⟨h19, h20, h21, t18, h22, h⟩ := h
 refine Zp 3 rfl (OV.sliceStr (s := p_a) h19 h20 h21 h22 rfl rfl rfl rfl rfl rfl) (GA.eff 4 rfl (by kernel_rfl) (Zc h QfU ?_))
 rintro _ H26 ⟨r25, rfl, h⟩
 obtain ⟨hle24, h⟩ := h
 refine GA.back hle24 (Zp 5 rfl Ya (GA.done (by kernel_rfl) (GL.nil ?_)))
 exact Y1 I3 ⟨r25, rfl, h⟩
 refine GC.skip (GC.seq (Zo (Zm (Zr (Zm (Zr (Zi (.bool (((List.length p_a : Int) : Int) != (List.length p_b : Int))) (GL.nil (Yd h (fun u27 h => ?_) fun u27 h => ?_)))))))))
 refine Zo (Zm (Zr (Zm (Zr (Zc h Qa7 ?_)))))
 rintro _ H29 ⟨r28, rfl, h⟩
 refine Za (GL.nil ?_)
 exact Y1 I3 ⟨r28, rfl, h⟩
 refine GC.skip (Zo (Zm (Zm (Zc h Qdc ?_))))
 rintro _ H31 ⟨r30, rfl, h⟩
 refine Za (GL.nil ?_)
 exact Y1 I3 ⟨r30, rfl, h⟩
def Qff (C : Ctx) (p_a : Str) (p_b : Str) (K : Int → Heap → Prop) (H : Heap) : Prop :=
 lp (α := Int) 0 H (fun x1 J2 H3 =>
 ift ((decide ((x1 : Int) < (List.length p_a : Int))) && (decide ((x1 : Int) < (List.length p_b : Int))))
 (ixs p_a x1 fun c6 =>
 ixs p_b x1 fun c9 =>
 ift (((c6.toNat : Int) : Int) != (c9.toNat : Int))
 (dr H3 fun Hs13 =>
 ixs p_a x1 fun c15 =>
 ixs p_b x1 fun c18 =>
 Qal C (w .i64 (c15.toNat : Int)) (w .i64 (c18.toNat : Int)) (fun r22 H23 =>
 Heap.le Hs13 H23 ∧
 K r22 H23) H3)
 (J2 (w .i64 (x1 + 1)) H3))
 (Qal C (List.length p_a : Int) (List.length p_b : Int) (fun r24 H25 =>
 K r24 H25) H3))
theorem Qif (C p_a p_b K H) (h : Qff C p_a p_b K H) : QbE C p_a p_b K H := by
 refine Ye Tryz.func125 rfl Tryz.ntmps125 [(0, sv p_a), (1, sv p_b)] (Zo (Za (GL.nil (GC.seq (Zo (Za (GL.nil (GC.block (Yp h (fun x1 => [(5, .int .i64 x1), (0, sv p_a), (1, sv p_b)]) ?_)))))))))
 intro x1 H3 J2 h
 refine GC.seq (Zo (Zm (Zm (Zr (Zi (.bool (decide ((x1 : Int) < (List.length p_a : Int)))) (Zm (GL.cut0 5 [(15, .bool ((decide ((x1 : Int) < (List.length p_a : Int))) && (decide ((x1 : Int) < (List.length p_b : Int))))), (0, sv p_a), (1, sv p_b), (5, .int .i64 x1)] ?_ ?_)))))))
 rcases Zb (decide ((x1 : Int) < (List.length p_a : Int))) with u4 | u4
 refine Zu u4 Ym (Zu u4 Ym (Zu u4 (OV.lenStr rfl rfl) (Zu u4 (OV.ibin (v := .bool (decide ((x1 : Int) < (List.length p_b : Int)))) rfl rfl rfl) (Zt u4 ?_))))
 exact GL.jump0 (fun _ _ h => h) () rfl ⟨(by rw [u4]; rfl), rfl, rfl, rfl, trivial⟩
 refine Zk u4 (Zk u4 (Zk u4 (Zk u4 (Zn u4 ?_))))
 exact GL.jump0 (fun _ _ h => h) () rfl ⟨(by rw [u4]; rfl), rfl, rfl, rfl, trivial⟩
 refine GL.nil (Yd h (fun u5 h => ?_) fun u5 h => ?_)
 refine GC.skip (GC.seq (GC.block (GC.seq (GC.draw (by kernel_rfl) (by kernel_rfl) (GQ.val trivial rfl (OV.move (v := sv p_a) rfl) (GQ.val trivial rfl (OV.move (v := .int .i64 x1) rfl) ?_))))))
 obtain ⟨c6, ha7, hb8, h⟩ := h
 refine GQ.val trivial rfl (OV.indexStr (s := p_a) rfl rfl rfl ha7 hb8) (GQ.val trivial rfl (OV.move (v := sv p_b) rfl) (GQ.val trivial rfl (OV.move (v := .int .i64 x1) rfl) ?_))
 obtain ⟨c9, ha10, hb11, h⟩ := h
 refine GQ.val trivial rfl (OV.indexStr (s := p_b) rfl rfl rfl ha10 hb11) (GQ.val trivial rfl (OV.ibin (v := .bool (((c6.toNat : Int) : Int) != (c9.toNat : Int))) rfl rfl rfl) (GQ.nil (GL.nil (Yd h (fun u12 h => ?_) fun u12 h => ?_))))
 refine GC.seq ?_
 obtain ⟨Hs13, hle14, h⟩ := h
 refine GC.any (Hs := Hs13) (by kernel_rfl) hle14 (Zp 0 rfl Ym (Zp 1 rfl Ym ?_))
 obtain ⟨c15, ha16, hb17, h⟩ := h
 refine Zp 2 rfl (OV.indexStr rfl rfl rfl ha16 hb17) (Zp 3 rfl (OV.convInt rfl rfl rfl) (Zp 4 rfl Ym (Zp 5 rfl Ym ?_)))
 obtain ⟨c18, ha19, hb20, h⟩ := h
 refine Zp 6 rfl (OV.indexStr rfl rfl rfl ha19 hb20) (Zp 7 rfl (OV.convInt rfl rfl rfl) (GA.eff 8 rfl (by kernel_rfl) (Zc h Qa7 ?_)))
 rintro _ H23 ⟨r22, rfl, h⟩
 obtain ⟨hle21, h⟩ := h
 refine GA.back hle21 (Zp 9 rfl Ya (GA.done (by kernel_rfl) (GL.nil ?_)))
 exact Y1 I3 ⟨r22, rfl, h⟩
 refine GC.skip_to (fun _ _ h => h) (GC.region (Zm (Zi (.int .i64 (w .i64 (x1 + 1))) (Za ?_))))
 exact Yj I3 (w .i64 (x1 + 1)) h
 refine GC.exit_to (fun _ _ h => h) (Zo (Zm (Zr (Zm (Zr (Zc h Qa7 ?_))))))
 rintro _ H25 ⟨r24, rfl, h⟩
 refine Za (GL.nil ?_)
 exact Y1 I3 ⟨r24, rfl, h⟩
def QU (C : Ctx) (p_s : Sl) (p_f : Value) (K : Int → Heap → Prop) (H : Heap) : Prop :=
 lp (α := Int) 0 H (fun x1 J2 H3 =>
 ift (decide ((x1 : Int) < (Sl.len p_s : Int)))
 (ixa p_s x1 fun p5 =>
 ldT H3 Qa.c (p5.1, p5.2 + (x1 : Int).toNat * 4) fun x10 =>
 callU Tryz.prog C p_f [.agg (Qa.c x10).toArray] H3 (fun v H13 => ∃ (r12 : Bool), v = .bool r12 ∧
 ift r12
 (K x1 H13)
 (J2 (w .i64 (x1 + 1)) H13)))
 (K (-1) H3))
theorem QaR (C p_s p_f K H) (h : QU C p_s p_f K H) : Qw C p_s p_f K H := by
 refine Ye Tryz.func131 rfl Tryz.ntmps131 [(0, slv p_s), (1, p_f)] (Zo (Za (GL.nil (GC.seq (Zo (Zm (Zq (Zm (GL.nil (GC.block (Yp h (fun x1 => [(8, .int .i64 x1), (0, slv p_s), (1, p_f), (7, .int .i64 (Sl.len p_s : Int))]) ?_)))))))))))
 intro x1 H3 J2 h
 refine Zo (Zi (.bool (decide ((x1 : Int) < (Sl.len p_s : Int)))) (GL.nil (GC.seq (Yd h (fun u4 h => ?_) fun u4 h => ?_))))
 refine GC.skip (GC.seq (GC.block (Zo (Zm (Za (GL.nil (Zo (Zm (Zm (Zm (Yx h fun p5 h => ?_)))))))))))
 obtain ⟨x10, v11, h⟩ := h
 refine Zv (OV.loadT rfl rfl rfl v11) (GL.callU (xv := p_f) (vs := [.agg (Qa.c x10).toArray]) h trivial rfl rfl rfl ?_)
 rintro _ H13 ⟨r12, rfl, h⟩
 refine GL.nil (Yd h (fun u14 h => ?_) fun u14 h => ?_)
 refine Zo (Zm (Za (GL.nil ?_)))
 exact Y1 I3 ⟨x1, rfl, h⟩
 refine GC.skip_to (fun _ _ h => h) (GC.region (Zi (.int .i64 (w .i64 (x1 + 1))) (Zm ?_)))
 exact Yj I3 (w .i64 (x1 + 1)) h
 refine GC.exit_to (fun _ _ h => h) (Zo (Za (GL.nil ?_)))
 exact Y1 I3 ⟨(-1), rfl, h⟩
def Qch (C : Ctx) (p_x : Int) (p_y : Int) (K : Int → Heap → Prop) (H : Heap) : Prop :=
 Qa3 C p_x (fun r1 H2 =>
 Qa3 C p_y (fun r3 H4 =>
 ift r1
 (ift r3
 (K 0 H4)
 (K (-1) H4))
 (ift r3
 (K 1 H4)
 (ift (decide ((p_x : Int) < p_y))
 (K (-1) H4)
 (ift (decide ((p_x : Int) > p_y))
 (K 1 H4)
 (K 0 H4))))) H2) H
theorem QeV (C p_x p_y K H) (h : Qch C p_x p_y K H) : Qbo C p_x p_y K H := by
 refine Ye Tryz.func132 rfl Tryz.ntmps132 [(0, .int .u8 p_x), (1, .int .u8 p_y)] (Zo (Za (GL.nil (Zo (Zm (Zc h QcP ?_))))))
 rintro _ H2 ⟨r1, rfl, h⟩
 refine Za (GL.nil (Zo (Zm (Zc h QcP ?_))))
 rintro _ H4 ⟨r3, rfl, h⟩
 refine Za (GL.nil (GC.seq (Zo (Zm (GL.nil (Yd h (fun hc5 h => ?_) fun hc5 h => ?_))))))
 refine GC.seq (Zo (Zm (GL.nil (Yd h (fun hc6 h => ?_) fun hc6 h => ?_))))
 refine Zo (Za (GL.nil ?_))
 exact Y1 I3 ⟨0, rfl, h⟩
 refine GC.skip (Zo (Za (GL.nil ?_)))
 exact Y1 I3 ⟨(-1), rfl, h⟩
 refine GC.skip (GC.seq (Zo (Zm (GL.nil (Yd h (fun hc7 h => ?_) fun hc7 h => ?_)))))
 refine Zo (Za (GL.nil ?_))
 exact Y1 I3 ⟨1, rfl, h⟩
 refine GC.skip (GC.seq (Zo (Zm (Zm (Zi (.bool (decide ((p_x : Int) < p_y))) (GL.nil (Yd h (fun hc8 h => ?_) fun hc8 h => ?_)))))))
 refine Zo (Za (GL.nil ?_))
 exact Y1 I3 ⟨(-1), rfl, h⟩
 refine GC.skip (GC.seq (Zo (Zm (Zm (Zi (.bool (decide ((p_x : Int) > p_y))) (GL.nil (Yd h (fun hc9 h => ?_) fun hc9 h => ?_)))))))
 refine Zo (Za (GL.nil ?_))
 exact Y1 I3 ⟨1, rfl, h⟩
 refine GC.skip (Zo (Za (GL.nil ?_)))
 exact Y1 I3 ⟨0, rfl, h⟩
def QdY (C : Ctx) (p_a : Str) (p_b : Str) (K : Int → Heap → Prop) (H : Heap) : Prop :=
 Qaq C p_a [45] (fun r1 H2 =>
 Qaq C p_b [45] (fun r3 H4 =>
 ift (r1 && r3)
 (dr H4 fun Hs7 =>
 slS p_b 1 (List.length p_b : Int) fun t9 =>
 slS p_a 1 (List.length p_a : Int) fun t15 =>
 Qaa C t9 t15 (fun r22 H23 =>
 Heap.le Hs7 H23 ∧
 K r22 H23) H4)
 (ift r1
 (K (-1) H4)
 (ift r3
 (K 1 H4)
 (QbM C (List.length p_a : Int) (List.length p_b : Int) (fun r26 H27 =>
 QA C p_a p_b (fun r28 H29 =>
 nw ([.int .i64 r26, .int .i64 r28]) (fun b30 H31 =>
 Qbu C (Sl.of (some (b30, 0)) 2 2) (fun r32 H33 =>
 K r32 H33) H31) H29) H27) H4)))) H2) H
theorem QfK (C p_a p_b K H) (h : QdY C p_a p_b K H) : Qaa C p_a p_b K H := by
 refine Ye Tryz.func133 rfl Tryz.ntmps133 [(0, sv p_a), (1, sv p_b)] (Zo (Za (GL.nil (Zo (Zm (Zc h Qcf ?_))))))
 rintro _ H2 ⟨r1, rfl, h⟩
 refine Zm (Zc h Qcf ?_)
 rintro _ H4 ⟨r3, rfl, h⟩
 refine Za (Za (GL.nil (GC.seq (GC.block (Zo (Zm (Zm (GL.cut0 2 [(15, .bool (r1 && r3)), (0, sv p_a), (1, sv p_b), (5, .bool r1), (6, .bool r3)] ?_ ?_))))))))
 rcases Bool.eq_false_or_eq_true r1 with u5 | u5
 refine Zu u5 Ym (Zt u5 ?_)
 exact GL.jump0 (fun _ _ h => h) () rfl ⟨(by rw [u5]; rfl), rfl, rfl, rfl, rfl, trivial⟩
 refine Zk u5 (Zn u5 ?_)
 exact GL.jump0 (fun _ _ h => h) () rfl ⟨(by rw [u5]; rfl), rfl, rfl, rfl, rfl, trivial⟩
 refine Za (GL.nil (Yd h (fun u6 h => ?_) fun u6 h => ?_))
 refine GC.seq ?_
 obtain ⟨Hs7, hle8, h⟩ := h
 refine GC.any (Hs := Hs7) (by kernel_rfl) hle8 (Zp 0 rfl Ym ?_)
 obtain ⟨h10, h11, h12, t9, h13, h⟩ := h
 refine Zp 1 rfl (OV.sliceStr (s := p_b) h10 h11 h12 h13 rfl rfl rfl rfl rfl rfl) (Zp 2 rfl Ym ?_)
 obtain ⟨h16, h17, h18, t15, h19, h⟩ := h
 refine Zp 3 rfl (OV.sliceStr (s := p_a) h16 h17 h18 h19 rfl rfl rfl rfl rfl rfl) (GA.eff 4 rfl (by kernel_rfl) (Zc h Qf0 ?_))
 rintro _ H23 ⟨r22, rfl, h⟩
 obtain ⟨hle21, h⟩ := h
 refine GA.back hle21 (Zp 5 rfl Ya (GA.done (by kernel_rfl) (GL.nil ?_)))
 exact Y1 I3 ⟨r22, rfl, h⟩
 refine Zo (Zm (Za (GL.nil (Yd h (fun u24 h => ?_) fun u24 h => ?_))))
 refine Zo (Za (GL.nil ?_))
 exact Y1 I3 ⟨(-1), rfl, h⟩
 refine Zo (Zm (Za (GL.nil (Yd h (fun u25 h => ?_) fun u25 h => ?_))))
 refine Zo (Za (GL.nil ?_))
 exact Y1 I3 ⟨1, rfl, h⟩
 refine GC.skip_to (fun _ _ h => h) (Zo (Zm (Zr (Zm (Zr (Zc h QfT ?_))))))
 rintro _ H27 ⟨r26, rfl, h⟩
 refine Zm (Zm (Zc h Qab ?_))
 rintro _ H29 ⟨r28, rfl, h⟩
 refine GL.buildSlice (cs := [.int .i64 r26, .int .i64 r28]) h trivial rfl (vs := [(0, .int .i64 r26), (1, .int .i64 r28)]) rfl ⟨3, fun _ => by kernel_rfl⟩ ?_
 intro b30 H31 h
 refine Zc h QdP ?_
 rintro _ H33 ⟨r32, rfl, h⟩
 refine Za (GL.nil ?_)
 exact Y1 I3 ⟨r32, rfl, h⟩
def Qcg (C : Ctx) (p_x : Int) (p_y : Int) (K : Int → Heap → Prop) (H : Heap) : Prop :=
 Qa2 C p_x (fun r1 H2 =>
 Qa2 C p_y (fun r3 H4 =>
 ift r1
 (ift r3
 (K 0 H4)
 (K (-1) H4))
 (ift r3
 (K 1 H4)
 (ift (decide ((p_x : Int) < p_y))
 (K (-1) H4)
 (ift (decide ((p_x : Int) > p_y))
 (K 1 H4)
 (K 0 H4))))) H2) H
theorem QeU (C p_x p_y K H) (h : Qcg C p_x p_y K H) : Qbn C p_x p_y K H := by
 refine Ye Tryz.func134 rfl Tryz.ntmps134 [(0, .int .i64 p_x), (1, .int .i64 p_y)] (Zo (Za (GL.nil (Zo (Zm (Zc h QcO ?_))))))
 rintro _ H2 ⟨r1, rfl, h⟩
 refine Za (GL.nil (Zo (Zm (Zc h QcO ?_))))
 rintro _ H4 ⟨r3, rfl, h⟩
 refine Za (GL.nil (GC.seq (Zo (Zm (GL.nil (Yd h (fun u5 h => ?_) fun u5 h => ?_))))))
 refine GC.seq (Zo (Zm (GL.nil (Yd h (fun u6 h => ?_) fun u6 h => ?_))))
 refine Zo (Za (GL.nil ?_))
 exact Y1 I3 ⟨0, rfl, h⟩
 refine GC.skip (Zo (Za (GL.nil ?_)))
 exact Y1 I3 ⟨(-1), rfl, h⟩
 refine GC.skip (GC.seq (Zo (Zm (GL.nil (Yd h (fun u7 h => ?_) fun u7 h => ?_)))))
 refine Zo (Za (GL.nil ?_))
 exact Y1 I3 ⟨1, rfl, h⟩
 refine GC.skip (GC.seq (Zo (Zm (Zm (Zi (.bool (decide ((p_x : Int) < p_y))) (GL.nil (Yd h (fun u8 h => ?_) fun u8 h => ?_)))))))
 refine Zo (Za (GL.nil ?_))
 exact Y1 I3 ⟨(-1), rfl, h⟩
 refine GC.skip (GC.seq (Zo (Zm (Zm (Zi (.bool (decide ((p_x : Int) > p_y))) (GL.nil (Yd h (fun u9 h => ?_) fun u9 h => ?_)))))))
 refine Zo (Za (GL.nil ?_))
 exact Y1 I3 ⟨1, rfl, h⟩
 refine GC.skip (Zo (Za (GL.nil ?_)))
 exact Y1 I3 ⟨0, rfl, h⟩
def QeJ (C : Ctx) (p_s : Str) (K : Int → Bool → Heap → Prop) (H : Heap) : Prop :=
 Qbc C p_s [45] (fun r1 H2 =>
 jn (α := Bool) (fun b3 H9 =>
 jn (α := Bool) (fun b10 H18 =>
 ift b10
 (K 0 false H18)
 (K (List.length r1 : Int) true H18))
 (fun J11 => ift b3
 (J11 true H9)
 (ixs r1 0 fun c14 =>
 J11 ((((c14.toNat : Int) : Int) == 48) && (!(p_s == ([48] : Str)))) H9)))
 (fun J4 => ift (r1 == ([] : Str))
 (J4 true H2)
 (Qag C r1 [48, 49, 50, 51, 52, 53, 54, 55, 56, 57] (fun r7 H8 =>
 J4 (!(r7 == ([] : Str))) H8) H2))) H
theorem Qhr (C p_s K H) (h : QeJ C p_s K H) : Qda C p_s K H := by
 refine Ye Tryz.func135 rfl Tryz.ntmps135 [(0, sv p_s)] (Zo (Za (Za (GL.nil (Zo (Zm (Zc h Qes ?_)))))))
 rintro _ H2 ⟨r1, rfl, h⟩
 refine Za (GL.nil (GC.seq (Zo (Zm (Zv (OV.sbin (a := r1) (b := ([] : Str)) (v := .bool (r1 == ([] : Str))) rfl rfl rfl) (Zm ?_))))))
 obtain ⟨J4, h, hR5⟩ := h
 refine GL.cut (α := Bool) 4 J4 (fun b3 => [(13, .bool b3), (0, sv p_s), (4, sv r1)]) ?_ ?_
 rcases h.em with ⟨u6, h⟩ | ⟨u6, h⟩
 refine Zk u6 (Zk u6 (Zk u6 (Zt u6 ?_)))
 exact Yj I3 true h
 refine Zu u6 Ym (GL.call h (Yt u6) rfl QhK (vs := [sv r1, sv [48, 49, 50, 51, 52, 53, 54, 55, 56, 57]]) rfl ?_)
 rintro _ H8 ⟨r7, rfl, h⟩
 refine Zu u6 (OV.sbin (a := r7) (b := ([] : Str)) (v := .bool (!(r7 == ([] : Str)))) rfl rfl rfl) (Zn u6 ?_)
 exact Yj I3 (!(r7 == ([] : Str))) h
 intro b3 H9 h
 replace h := hR5 b3 H9 h
 refine Zm ?_
 obtain ⟨J11, h, hR12⟩ := h
 refine GL.cut (α := Bool) 8 J11 (fun b10 => [(22, .bool b10), (4, sv r1)]) ?_ ?_
 rcases h.em with ⟨u13, h⟩ | ⟨u13, h⟩
 refine Zk u13 (Zk u13 (Zk u13 (Zk u13 (GL.skip ⟨_, rfl, .inr rfl⟩ rfl (GL.skip ⟨_, rfl, .inr rfl⟩ rfl (Zk u13 (Zt u13 ?_)))))))
 exact Yj I3 true h
 refine Zu u13 Ym ?_
 obtain ⟨c14, ha15, hb16, h⟩ := h
 refine Zu u13 (OV.indexStr rfl rfl rfl ha15 hb16) (Zu u13 (OV.ibin (v := .bool (((c14.toNat : Int) : Int) == 48)) rfl rfl rfl) (Zu u13 Ym (GL.cut0 3 [(21, .bool ((((c14.toNat : Int) : Int) == 48) && (!(p_s == ([48] : Str))))), (4, sv r1), (14, .bool b3)] ?_ ?_)))
 rcases Zb (((c14.toNat : Int) : Int) == 48) with u17 | u17
 refine Zu u17 Ym (Zu u17 (OV.sbin (a := p_s) (b := ([48] : Str)) (v := .bool (!(p_s == ([48] : Str)))) rfl rfl rfl) (Zu u13 (OV.pickT rfl u17 rfl) ?_))
 exact GL.jump0 (fun _ _ h => h) () rfl ⟨(by rw [u17]; rfl), rfl, rfl, trivial⟩
 refine Zk u17 (Zk u17 (Zu u13 (OV.pickF rfl u17 rfl) ?_))
 exact GL.jump0 (fun _ _ h => h) () rfl ⟨(by rw [u17]; rfl), rfl, rfl, trivial⟩
 refine Zn u13 ?_
 exact Yj I3 ((((c14.toNat : Int) : Int) == 48) && (!(p_s == ([48] : Str)))) h
 intro b10 H18 h
 replace h := hR12 b10 H18 h
 refine GL.nil (Yd h (fun u19 h => ?_) fun u19 h => ?_)
 refine Zo (Za (Za (GL.nil ?_)))
 exact Y2 I3 ⟨0, false, rfl, h⟩
 refine GC.skip (Zo (Zm (Zr (Za (Za (GL.nil ?_))))))
 exact Y2 I3 ⟨(List.length r1 : Int), true, rfl, h⟩
def Qfg (C : Ctx) (p_s : Str) (p_sep : Str) (K : Str → Str → Bool → Heap → Prop) (H : Heap) : Prop :=
 Qa9 C p_s p_sep (fun r1 r2 r3 H4 =>
 K r1 r2 r3 H4) H
theorem Qig (C p_s p_sep K H) (h : Qfg C p_s p_sep K H) : QdG C p_s p_sep K H := by
 refine Ye Tryz.func136 rfl Tryz.ntmps136 [(0, sv p_s), (1, sv p_sep)] (Zo (Za (Za (Za (GL.nil (Zo (Zm (Zm (Zc h QcC ?_)))))))))
 rintro _ H4 ⟨r1, r2, r3, rfl, h⟩
 refine Yv (sv r1) rfl rfl (Yv (sv r2) rfl rfl (Yv (.bool r3) rfl rfl (Za (Za (Za (GL.nil ?_))))))
 exact Y3 I3 ⟨r1, r2, r3, rfl, h⟩
def Qgf (C : Ctx) (p_s : Str) (K : Bool → Heap → Prop) (H : Heap) : Prop :=
 jn (α := Bool) (fun b2 H9 =>
 jn (α := Bool) (fun b10 H17 =>
 ift b10
 (K false H17)
 (lp (α := Int) 0 H17 (fun x19 J20 H21 =>
 ift (decide ((x19 : Int) < (List.length p_s : Int)))
 (ixs p_s x19 fun c23 =>
 ift (!(((((decide (((c23.toNat : Int) : Int) ≥ 97)) && (decide (((c23.toNat : Int) : Int) ≤ 122))) || ((decide (((c23.toNat : Int) : Int) ≥ 65)) && (decide (((c23.toNat : Int) : Int) ≤ 90)))) || ((decide (((c23.toNat : Int) : Int) ≥ 48)) && (decide (((c23.toNat : Int) : Int) ≤ 57)))) || (((c23.toNat : Int) : Int) == 95)))
 (K false H21)
 (J20 (w .i64 (x19 + 1)) H21))
 (K true H21))))
 (fun J11 => ift b2
 (J11 true H9)
 (ixs p_s 0 fun c14 =>
 J11 (decide (((c14.toNat : Int) : Int) > 122)) H9)))
 (fun J3 => ift ((p_s == ([] : Str)) || (decide (((List.length p_s : Int) : Int) > 32)))
 (J3 true H)
 (ixs p_s 0 fun c6 =>
 J3 (decide (((c6.toNat : Int) : Int) < 97)) H))
theorem QiY (C p_s K H) (h : Qgf C p_s K H) : Qbx C p_s K H := by
 refine Ye Tryz.func137 rfl Tryz.ntmps137 [(0, sv p_s)] (Zo (Za (GL.nil (GC.seq (Zo (Zm (Zv (OV.sbin (a := p_s) (b := ([] : Str)) (v := .bool (p_s == ([] : Str))) rfl rfl rfl) (Zm (GL.cut0 4 [(11, .bool ((p_s == ([] : Str)) || (decide (((List.length p_s : Int) : Int) > 32)))), (0, sv p_s)] ?_ ?_)))))))))
 rcases Zb (p_s == ([] : Str)) with hc1 | hc1
 refine Zk hc1 (Zk hc1 (Zk hc1 (Zt hc1 ?_)))
 exact GL.jump0 (fun _ _ h => h) () rfl ⟨(by rw [hc1]; rfl), rfl, trivial⟩
 refine Zu hc1 Ym (Zu hc1 (OV.lenStr rfl rfl) (Zu hc1 (OV.ibin (v := .bool (decide (((List.length p_s : Int) : Int) > 32))) rfl rfl rfl) (Zn hc1 ?_)))
 exact GL.jump0 (fun _ _ h => h) () rfl ⟨(by rw [hc1]; rfl), rfl, trivial⟩
 refine Zm ?_
 obtain ⟨J3, h, hR4⟩ := h
 refine GL.cut (α := Bool) 4 J3 (fun b2 => [(16, .bool b2), (0, sv p_s)]) ?_ ?_
 rcases h.em with ⟨hc5, h⟩ | ⟨hc5, h⟩
 refine Zk hc5 (Zk hc5 (Zk hc5 (Zt hc5 ?_)))
 exact Yj I3 true h
 refine Zu hc5 Ym ?_
 obtain ⟨c6, ha7, hb8, h⟩ := h
 refine Zu hc5 (OV.indexStr rfl rfl rfl ha7 hb8) (Zu hc5 (OV.ibin (v := .bool (decide (((c6.toNat : Int) : Int) < 97))) rfl rfl rfl) (Zn hc5 ?_))
 exact Yj I3 (decide (((c6.toNat : Int) : Int) < 97)) h
 intro b2 H9 h
 replace h := hR4 b2 H9 h
 refine Zm ?_
 obtain ⟨J11, h, hR12⟩ := h
 refine GL.cut (α := Bool) 4 J11 (fun b10 => [(21, .bool b10), (0, sv p_s)]) ?_ ?_
 rcases h.em with ⟨hc13, h⟩ | ⟨hc13, h⟩
 refine Zk hc13 (Zk hc13 (Zk hc13 (Zt hc13 ?_)))
 exact Yj I3 true h
 refine Zu hc13 Ym ?_
 obtain ⟨c14, ha15, hb16, h⟩ := h
 refine Zu hc13 (OV.indexStr rfl rfl rfl ha15 hb16) (Zu hc13 (OV.ibin (v := .bool (decide (((c14.toNat : Int) : Int) > 122))) rfl rfl rfl) (Zn hc13 ?_))
 exact Yj I3 (decide (((c14.toNat : Int) : Int) > 122)) h
 intro b10 H17 h
 replace h := hR12 b10 H17 h
 refine GL.nil (Yd h (fun hc18 h => ?_) fun hc18 h => ?_)
 refine Zo (Za (GL.nil ?_))
 exact Y1 I3 ⟨false, rfl, h⟩
 refine GC.skip (GC.seq (Zo (Zm (Zr (Zm (GL.nil (GC.block (Yp h (fun x19 => [(24, .int .i64 x19), (0, sv p_s), (23, .int .i64 (List.length p_s : Int))]) ?_))))))))
 intro x19 H21 J20 h
 refine Zo (Zi (.bool (decide ((x19 : Int) < (List.length p_s : Int)))) (GL.nil (GC.seq (Yd h (fun hc22 h => ?_) fun hc22 h => ?_))))
 refine GC.skip (GC.seq (GC.block (Zo (Zm (Za (GL.nil (Zo (Zm (Zm (Ys h fun c23 h => ?_))))))))))
 refine Za (GL.nil (Zo (Zm (Zi (.bool (decide (((c23.toNat : Int) : Int) ≥ 97))) (Zm (GL.cut0 3 [(35, .bool ((decide (((c23.toNat : Int) : Int) ≥ 97)) && (decide (((c23.toNat : Int) : Int) ≤ 122)))), (0, sv p_s), (4, .int .u8 (c23.toNat : Int)), (23, .int .i64 (List.length p_s : Int)), (24, .int .i64 x19)] ?_ ?_))))))
 rcases Zb (decide (((c23.toNat : Int) : Int) ≥ 97)) with hc26 | hc26
 refine Zu hc26 Ym (Zu hc26 (OV.ibin (v := .bool (decide (((c23.toNat : Int) : Int) ≤ 122))) rfl rfl rfl) (Zt hc26 ?_))
 exact GL.jump0 (fun _ _ h => h) () rfl ⟨(by rw [hc26]; rfl), rfl, rfl, rfl, rfl, trivial⟩
 refine Zk hc26 (Zk hc26 (Zn hc26 ?_))
 exact GL.jump0 (fun _ _ h => h) () rfl ⟨(by rw [hc26]; rfl), rfl, rfl, rfl, rfl, trivial⟩
 refine Zm (GL.cut0 7 [(43, .bool (((decide (((c23.toNat : Int) : Int) ≥ 97)) && (decide (((c23.toNat : Int) : Int) ≤ 122))) || ((decide (((c23.toNat : Int) : Int) ≥ 65)) && (decide (((c23.toNat : Int) : Int) ≤ 90))))), (0, sv p_s), (4, .int .u8 (c23.toNat : Int)), (23, .int .i64 (List.length p_s : Int)), (24, .int .i64 x19)] ?_ ?_)
 rcases Zb ((decide (((c23.toNat : Int) : Int) ≥ 97)) && (decide (((c23.toNat : Int) : Int) ≤ 122))) with hc27 | hc27
 refine Zk hc27 (Zk hc27 (Zk hc27 (GL.skip ⟨_, rfl, .inr rfl⟩ rfl (GL.skip ⟨_, rfl, .inr rfl⟩ rfl (Zk hc27 (Zt hc27 ?_))))))
 exact GL.jump0 (fun _ _ h => h) () rfl ⟨(by rw [hc27]; rfl), rfl, rfl, rfl, rfl, trivial⟩
 refine Zu hc27 Ym (Zu hc27 (OV.ibin (v := .bool (decide (((c23.toNat : Int) : Int) ≥ 65))) rfl rfl rfl) (Zu hc27 Ym (GL.cut0 3 [(42, .bool ((decide (((c23.toNat : Int) : Int) ≥ 65)) && (decide (((c23.toNat : Int) : Int) ≤ 90)))), (0, sv p_s), (4, .int .u8 (c23.toNat : Int)), (23, .int .i64 (List.length p_s : Int)), (24, .int .i64 x19), (36, .bool ((decide (((c23.toNat : Int) : Int) ≥ 97)) && (decide (((c23.toNat : Int) : Int) ≤ 122))))] ?_ ?_)))
 rcases Zb (decide (((c23.toNat : Int) : Int) ≥ 65)) with hc28 | hc28
 refine Zu hc28 Ym (Zu hc28 (OV.ibin (v := .bool (decide (((c23.toNat : Int) : Int) ≤ 90))) rfl rfl rfl) (Zu hc27 (OV.pickT rfl hc28 rfl) ?_))
 exact GL.jump0 (fun _ _ h => h) () rfl ⟨(by rw [hc28]; rfl), rfl, rfl, rfl, rfl, rfl, trivial⟩
 refine Zk hc28 (Zk hc28 (Zu hc27 (OV.pickF rfl hc28 rfl) ?_))
 exact GL.jump0 (fun _ _ h => h) () rfl ⟨(by rw [hc28]; rfl), rfl, rfl, rfl, rfl, rfl, trivial⟩
 refine Zn hc27 ?_
 exact GL.jump0 (fun _ _ h => h) () rfl ⟨(by rw [hc27]; rfl), rfl, rfl, rfl, rfl, trivial⟩
 refine Zm (GL.cut0 7 [(51, .bool ((((decide (((c23.toNat : Int) : Int) ≥ 97)) && (decide (((c23.toNat : Int) : Int) ≤ 122))) || ((decide (((c23.toNat : Int) : Int) ≥ 65)) && (decide (((c23.toNat : Int) : Int) ≤ 90)))) || ((decide (((c23.toNat : Int) : Int) ≥ 48)) && (decide (((c23.toNat : Int) : Int) ≤ 57))))), (0, sv p_s), (4, .int .u8 (c23.toNat : Int)), (23, .int .i64 (List.length p_s : Int)), (24, .int .i64 x19)] ?_ ?_)
 rcases Zb (((decide (((c23.toNat : Int) : Int) ≥ 97)) && (decide (((c23.toNat : Int) : Int) ≤ 122))) || ((decide (((c23.toNat : Int) : Int) ≥ 65)) && (decide (((c23.toNat : Int) : Int) ≤ 90)))) with hc29 | hc29
 refine Zk hc29 (Zk hc29 (Zk hc29 (GL.skip ⟨_, rfl, .inr rfl⟩ rfl (GL.skip ⟨_, rfl, .inr rfl⟩ rfl (Zk hc29 (Zt hc29 ?_))))))
 exact GL.jump0 (fun _ _ h => h) () rfl ⟨(by rw [hc29]; rfl), rfl, rfl, rfl, rfl, trivial⟩
 refine Zu hc29 Ym (Zu hc29 (OV.ibin (v := .bool (decide (((c23.toNat : Int) : Int) ≥ 48))) rfl rfl rfl) (Zu hc29 Ym (GL.cut0 3 [(50, .bool ((decide (((c23.toNat : Int) : Int) ≥ 48)) && (decide (((c23.toNat : Int) : Int) ≤ 57)))), (0, sv p_s), (4, .int .u8 (c23.toNat : Int)), (23, .int .i64 (List.length p_s : Int)), (24, .int .i64 x19), (44, .bool (((decide (((c23.toNat : Int) : Int) ≥ 97)) && (decide (((c23.toNat : Int) : Int) ≤ 122))) || ((decide (((c23.toNat : Int) : Int) ≥ 65)) && (decide (((c23.toNat : Int) : Int) ≤ 90)))))] ?_ ?_)))
 rcases Zb (decide (((c23.toNat : Int) : Int) ≥ 48)) with hc30 | hc30
 refine Zu hc30 Ym (Zu hc30 (OV.ibin (v := .bool (decide (((c23.toNat : Int) : Int) ≤ 57))) rfl rfl rfl) (Zu hc29 (OV.pickT rfl hc30 rfl) ?_))
 exact GL.jump0 (fun _ _ h => h) () rfl ⟨(by rw [hc30]; rfl), rfl, rfl, rfl, rfl, rfl, trivial⟩
 refine Zk hc30 (Zk hc30 (Zu hc29 (OV.pickF rfl hc30 rfl) ?_))
 exact GL.jump0 (fun _ _ h => h) () rfl ⟨(by rw [hc30]; rfl), rfl, rfl, rfl, rfl, rfl, trivial⟩
 refine Zn hc29 ?_
 exact GL.jump0 (fun _ _ h => h) () rfl ⟨(by rw [hc29]; rfl), rfl, rfl, rfl, rfl, trivial⟩
 refine Zm (GL.cut0 3 [(55, .bool (((((decide (((c23.toNat : Int) : Int) ≥ 97)) && (decide (((c23.toNat : Int) : Int) ≤ 122))) || ((decide (((c23.toNat : Int) : Int) ≥ 65)) && (decide (((c23.toNat : Int) : Int) ≤ 90)))) || ((decide (((c23.toNat : Int) : Int) ≥ 48)) && (decide (((c23.toNat : Int) : Int) ≤ 57)))) || (((c23.toNat : Int) : Int) == 95))), (0, sv p_s), (23, .int .i64 (List.length p_s : Int)), (24, .int .i64 x19)] ?_ ?_)
 rcases Zb ((((decide (((c23.toNat : Int) : Int) ≥ 97)) && (decide (((c23.toNat : Int) : Int) ≤ 122))) || ((decide (((c23.toNat : Int) : Int) ≥ 65)) && (decide (((c23.toNat : Int) : Int) ≤ 90)))) || ((decide (((c23.toNat : Int) : Int) ≥ 48)) && (decide (((c23.toNat : Int) : Int) ≤ 57)))) with hc31 | hc31
 refine Zk hc31 (Zk hc31 (Zt hc31 ?_))
 exact GL.jump0 (fun _ _ h => h) () rfl ⟨(by rw [hc31]; rfl), rfl, rfl, rfl, trivial⟩
 refine Zu hc31 Ym (Zu hc31 (OV.ibin (v := .bool (((c23.toNat : Int) : Int) == 95)) rfl rfl rfl) (Zn hc31 ?_))
 exact GL.jump0 (fun _ _ h => h) () rfl ⟨(by rw [hc31]; rfl), rfl, rfl, rfl, trivial⟩
 refine Zv (OV.not rfl) (GL.nil (Yd h (fun hc32 h => ?_) fun hc32 h => ?_))
 refine Zo (Za (GL.nil ?_))
 exact Y1 I3 ⟨false, rfl, h⟩
 refine GC.skip_to (fun _ _ h => h) (GC.region (Zi (.int .i64 (w .i64 (x19 + 1))) (Zm ?_)))
 exact Yj I3 (w .i64 (x19 + 1)) h
 refine GC.exit_to (fun _ _ h => h) (Zo (Za (GL.nil ?_)))
 exact Y1 I3 ⟨true, rfl, h⟩
def QaL (C : Ctx) (p_b : Option (Nat × Nat)) (K : Heap → Prop) (H : Heap) : Prop :=
 nck p_b fun p1 =>
 ldP H (p1.1, p1.2 + 0) fun x3 =>
 ift (Option.isNone x3)
 (∃ p7, p_b = some p7 ∧ cvU p7 (
 cvP 136 2 p7 (
 nck p_b fun p10 =>
 sttG (p10.1, p10.2 + 0) (pv (some p7)) (fun H12 =>
 K H12) H) H) H)
 (nck p_b fun p13 =>
 ldP H (p13.1, p13.2 + 0) fun x15 =>
 ∃ p17, x15 = some p17 ∧ p_b = some p17 ∧
 ift false
 (False)
 (K H))
theorem Qcl (C p_b K H) (h : QaL C p_b K H) : QG C p_b K H := by
 refine Ye Tryz.func138 rfl Tryz.ntmps138 [(0, pv p_b)] (Zo (Zm ?_))
 obtain ⟨p1, hp2, h⟩ := h
 refine Zv (OV.nilCheck (q := p_b) rfl hp2) (Zf (Yl h fun x3 h => ?_))
 refine Zv (OV.eqlNil (p := x3) rfl rfl rfl) (GL.nil (Yd h (fun u5 h => ?_) fun u5 h => ?_))
 refine GC.region (Zm (Zm ?_))
 obtain ⟨p7, hp8, hu6, h⟩ := h
 refine Zv (OV.cvU (q := p_b) (p := p7) hp8 hu6 rfl rfl rfl ⟨_, rfl, by decide⟩) (Zv (OV.ext Qdb (vs := [pv (some p7)]) (v := pv (some p7)) rfl (fun w => QmL _ w)) ?_)
 obtain ⟨hu9, h⟩ := h
 refine Zv (OV.cvP (T := 136) (len := 2) (p := p7) hu9 rfl rfl rfl ⟨_, rfl⟩ (by kernel_rfl)) ?_
 obtain ⟨p10, hp11, h⟩ := h
 refine Zv (OV.nilCheck (q := p_b) rfl hp11) (Zf (GL.storeG (p := (p10.1, p10.2 + 0)) (v := pv (some p7)) h trivial rfl rfl rfl rfl ?_))
 intro H12 h
 exact GL.ends (fun _ _ hf hs => Qy rfl hf hs ⟨rfl, h⟩)
 refine Zo (Zm ?_)
 obtain ⟨p13, hp14, h⟩ := h
 refine Zv (OV.nilCheck (q := p_b) rfl hp14) (Zf (Yl h fun x15 h => ?_))
 refine Zm ?_
 obtain ⟨p17, hp18, hq19, h⟩ := h
 refine Zv (OV.neqSame (p := x15) (q := p_b) rfl rfl hp18 hq19 rfl rfl) (GL.nil (Yd h (fun u20 h => ?_) fun u20 h => ?_))
 exact GC.never h
 exact GC.ends (fun _ _ hf hs => Qy rfl hf hs ⟨rfl, h⟩)
def Qam (C : Ctx) (p_b : Bool) (K : Str → Heap → Prop) (H : Heap) : Prop :=
 ift p_b
 (K [116, 114, 117, 101] H)
 (K [102, 97, 108, 115, 101] H)
theorem QbU (C p_b K H) (h : Qam C p_b K H) : Qaw C p_b K H := by
 refine Ye Tryz.func139 rfl Tryz.ntmps139 [(0, .bool p_b)] (Zo (Za (GL.nil (GC.seq (Zo (Zm (GL.nil (Yd h (fun u1 h => ?_) fun u1 h => ?_))))))))
 refine Zo (Za (GL.nil ?_))
 exact Y1 I3 ⟨[116, 114, 117, 101], rfl, h⟩
 refine GC.skip (Zo (Za (GL.nil ?_)))
 exact Y1 I3 ⟨[102, 97, 108, 115, 101], rfl, h⟩
def Qez (C : Ctx) (p_s : Str) (K : Bool → Heap → Prop) (H : Heap) : Prop :=
 jn (α := Str) (fun x2 H3 =>
 jn (α := Bool) (fun b24 H36 =>
 ift b24
 (K false H36)
 (lp (α := Int) 0 H36 (fun x38 J39 H40 =>
 ift (decide ((x38 : Int) < (List.length x2 : Int)))
 (ixs x2 x38 fun c42 =>
 jn (α := Bool) (fun b45 H52 =>
 ift b45
 (K false H52)
 (J39 (w .i64 (x38 + 1)) H52))
 (fun J46 => ift (decide (((c42.toNat : Int) : Int) < 48))
 (J46 true H40)
 (ixs x2 x38 fun c49 =>
 J46 (decide (((c49.toNat : Int) : Int) > 57)) H40)))
 (K true H40))))
 (fun J25 => ift (x2 == ([] : Str))
 (J25 true H3)
 (jn (α := Bool) (fun b28 H35 =>
 J25 b28 H35)
 (fun J29 => ift (decide (((List.length x2 : Int) : Int) > 1))
 (ixs x2 0 fun c32 =>
 J29 (((c32.toNat : Int) : Int) == 48) H3)
 (J29 false H3)))))
 (fun J1 => jn (α := Bool) (fun b5 H12 =>
 ift b5
 (slS p_s 1 (List.length p_s : Int) fun t14 =>
 ixs t14 0 fun c20 =>
 ift (((c20.toNat : Int) : Int) == 48)
 (K false H12)
 (J1 t14 H12))
 (J1 p_s H12))
 (fun J6 => ift (decide (((List.length p_s : Int) : Int) > 1))
 (ixs p_s 0 fun c9 =>
 J6 (((c9.toNat : Int) : Int) == 45) H)
 (J6 false H)))
theorem Qhh (C p_s K H) (h : Qez C p_s K H) : Qc6 C p_s K H := by
 refine Ye Tryz.func147 rfl Tryz.ntmps147 [(0, sv p_s)] (Zo (Za (GL.nil ?_)))
 obtain ⟨J1, h, hR4⟩ := h
 refine GC.join (α := Str) J1 (fun x2 => [(0, sv x2)]) ?_ ?_
 refine Zo (Zm (Zr (Zi (.bool (decide (((List.length p_s : Int) : Int) > 1))) (Zm ?_))))
 obtain ⟨J6, h, hR7⟩ := h
 refine GL.cut (α := Bool) 4 J6 (fun b5 => [(11, .bool b5), (0, sv p_s)]) ?_ ?_
 rcases h.em with ⟨u8, h⟩ | ⟨u8, h⟩
 refine Zu u8 Ym ?_
 obtain ⟨c9, ha10, hb11, h⟩ := h
 refine Zu u8 (OV.indexStr rfl rfl rfl ha10 hb11) (Zu u8 (OV.ibin (v := .bool (((c9.toNat : Int) : Int) == 45)) rfl rfl rfl) (Zt u8 ?_))
 exact Yj I3 (((c9.toNat : Int) : Int) == 45) h
 refine Zk u8 (Zk u8 (Zk u8 (Zn u8 ?_)))
 exact Yj I3 false h
 intro b5 H12 h
 replace h := hR7 b5 H12 h
 refine GL.nil (Yd h (fun u13 h => ?_) fun u13 h => ?_)
 refine Zo (Zm ?_)
 obtain ⟨h15, h16, h17, t14, h18, h⟩ := h
 refine Zv (OV.sliceStr (s := p_s) h15 h16 h17 h18 rfl rfl rfl rfl rfl rfl) (Za (GL.nil (Zo (Zm (Ys h fun c20 h => ?_)))))
 refine Zi (.bool (((c20.toNat : Int) : Int) == 48)) (GL.nil (Yd h (fun u23 h => ?_) fun u23 h => ?_))
 refine Zo (Za (GL.nil ?_))
 exact Y1 I3 ⟨false, rfl, h⟩
 exact Yk I3 t14 h
 exact Yk I3 p_s h
 intro x2 H3 h
 replace h := hR4 x2 H3 h
 refine GC.seq (Zo (Zm (Zv (OV.sbin (a := x2) (b := ([] : Str)) (v := .bool (x2 == ([] : Str))) rfl rfl rfl) (Zm ?_))))
 obtain ⟨J25, h, hR26⟩ := h
 refine GL.cut (α := Bool) 9 J25 (fun b24 => [(28, .bool b24), (0, sv x2)]) ?_ ?_
 rcases h.em with ⟨u27, h⟩ | ⟨u27, h⟩
 refine Zk u27 (Zk u27 (Zk u27 (Zk u27 (GL.skip ⟨_, rfl, .inr rfl⟩ rfl (GL.skip ⟨_, rfl, .inr rfl⟩ rfl (GL.skip ⟨_, rfl, .inr rfl⟩ rfl (Zk u27 (Zt u27 ?_))))))))
 exact Yj I3 true h
 refine Zu u27 Ym (Zu u27 (OV.lenStr rfl rfl) (Zu u27 (OV.ibin (v := .bool (decide (((List.length x2 : Int) : Int) > 1))) rfl rfl rfl) (Zu u27 Ym ?_)))
 obtain ⟨J29, h, hR30⟩ := h
 refine GL.cut (α := Bool) 4 J29 (fun b28 => [(27, .bool b28), (0, sv x2), (19, .bool (x2 == ([] : Str)))]) ?_ ?_
 rcases h.em with ⟨u31, h⟩ | ⟨u31, h⟩
 refine Zu u31 Ym ?_
 obtain ⟨c32, ha33, hb34, h⟩ := h
 refine Zu u31 (OV.indexStr rfl rfl rfl ha33 hb34) (Zu u31 (OV.ibin (v := .bool (((c32.toNat : Int) : Int) == 48)) rfl rfl rfl) (Zu u27 (OV.pickT rfl u31 rfl) ?_))
 exact Yj I3 (((c32.toNat : Int) : Int) == 48) h
 refine Zk u31 (Zk u31 (Zk u31 (Zu u27 (OV.pickF rfl u31 rfl) ?_)))
 exact Yj I3 false h
 intro b28 H35 h
 replace h := hR30 b28 H35 h
 refine Zn u27 ?_
 exact Yj I3 b28 h
 intro b24 H36 h
 replace h := hR26 b24 H36 h
 refine GL.nil (Yd h (fun u37 h => ?_) fun u37 h => ?_)
 refine Zo (Za (GL.nil ?_))
 exact Y1 I3 ⟨false, rfl, h⟩
 refine GC.skip (GC.seq (Zo (Za (GL.nil (GC.block (Yp h (fun x38 => [(3, .int .i64 x38), (0, sv x2)]) ?_))))))
 intro x38 H40 J39 h
 refine GC.seq (Zo (Zm (Zm (Zr (Zi (.bool (decide ((x38 : Int) < (List.length x2 : Int)))) (GL.nil (Yd h (fun u41 h => ?_) fun u41 h => ?_)))))))
 refine GC.skip (GC.seq (GC.block (Zo (Zm (Zm (Ys h fun c42 h => ?_))))))
 refine Zi (.bool (decide (((c42.toNat : Int) : Int) < 48))) (Zm ?_)
 obtain ⟨J46, h, hR47⟩ := h
 refine GL.cut (α := Bool) 5 J46 (fun b45 => [(44, .bool b45), (0, sv x2), (3, .int .i64 x38)]) ?_ ?_
 rcases h.em with ⟨u48, h⟩ | ⟨u48, h⟩
 refine Zk u48 (Zk u48 (Zk u48 (Zk u48 (Zt u48 ?_))))
 exact Yj I3 true h
 refine Zu u48 Ym (Zu u48 Ym ?_)
 obtain ⟨c49, ha50, hb51, h⟩ := h
 refine Zu u48 (OV.indexStr rfl rfl rfl ha50 hb51) (Zu u48 (OV.ibin (v := .bool (decide (((c49.toNat : Int) : Int) > 57))) rfl rfl rfl) (Zn u48 ?_))
 exact Yj I3 (decide (((c49.toNat : Int) : Int) > 57)) h
 intro b45 H52 h
 replace h := hR47 b45 H52 h
 refine GL.nil (Yd h (fun u53 h => ?_) fun u53 h => ?_)
 refine Zo (Za (GL.nil ?_))
 exact Y1 I3 ⟨false, rfl, h⟩
 refine GC.skip_to (fun _ _ h => h) (GC.region (Zm (Zi (.int .i64 (w .i64 (x38 + 1))) (Za ?_))))
 exact Yj I3 (w .i64 (x38 + 1)) h
 refine GC.exit_to (fun _ _ h => h) (Zo (Za (GL.nil ?_)))
 exact Y1 I3 ⟨true, rfl, h⟩
def Qfe (C : Ctx) (p_s : Str) (K : Bool → Heap → Prop) (H : Heap) : Prop :=
 ift ((p_s == ([116, 114, 117, 101] : Str)) || (p_s == ([102, 97, 108, 115, 101] : Str)))
 (K false H)
 (lp (α := Int) 0 H (fun x3 J4 H5 =>
 ift (decide ((x3 : Int) < (List.length p_s : Int)))
 (ixs p_s x3 fun c7 =>
 ift (((c7.toNat : Int) : Int) == 46)
 (slS p_s 0 x3 fun t11 =>
 QbX C t11 (fun r17 H18 =>
 jn (α := Bool) (fun b19 H31 =>
 K b19 H31)
 (fun J20 => ift r17
 (slS p_s (w .i64 (x3 + 1)) (List.length p_s : Int) fun t23 =>
 QbX C t23 (fun r29 H30 =>
 J20 r29 H30) H18)
 (J20 false H18))) H5)
 (J4 (w .i64 (x3 + 1)) H5))
 (QbX C p_s (fun r32 H33 =>
 K r32 H33) H5)))
theorem Qie (C p_s K H) (h : Qfe C p_s K H) : QdF C p_s K H := by
 refine Ye Tryz.func148 rfl Tryz.ntmps148 [(0, sv p_s)] (Zo (Za (GL.nil (GC.seq (Zo (Zm (Zv (OV.sbin (a := p_s) (b := ([116, 114, 117, 101] : Str)) (v := .bool (p_s == ([116, 114, 117, 101] : Str))) rfl rfl rfl) (Zm (GL.cut0 3 [(9, .bool ((p_s == ([116, 114, 117, 101] : Str)) || (p_s == ([102, 97, 108, 115, 101] : Str)))), (0, sv p_s)] ?_ ?_)))))))))
 rcases Zb (p_s == ([116, 114, 117, 101] : Str)) with u1 | u1
 refine Zk u1 (Zk u1 (Zt u1 ?_))
 exact GL.jump0 (fun _ _ h => h) () rfl ⟨(by rw [u1]; rfl), rfl, trivial⟩
 refine Zu u1 Ym (Zu u1 (OV.sbin (a := p_s) (b := ([102, 97, 108, 115, 101] : Str)) (v := .bool (p_s == ([102, 97, 108, 115, 101] : Str))) rfl rfl rfl) (Zn u1 ?_))
 exact GL.jump0 (fun _ _ h => h) () rfl ⟨(by rw [u1]; rfl), rfl, trivial⟩
 refine GL.nil (Yd h (fun u2 h => ?_) fun u2 h => ?_)
 refine Zo (Za (GL.nil ?_))
 exact Y1 I3 ⟨false, rfl, h⟩
 refine GC.skip (GC.seq (Zo (Za (GL.nil (GC.block (Yp h (fun x3 => [(3, .int .i64 x3), (0, sv p_s)]) ?_))))))
 intro x3 H5 J4 h
 refine GC.seq (Zo (Zm (Zm (Zr (Zi (.bool (decide ((x3 : Int) < (List.length p_s : Int)))) (GL.nil (Yd h (fun u6 h => ?_) fun u6 h => ?_)))))))
 refine GC.skip (GC.seq (GC.block (Zo (Zm (Zm (Ys h fun c7 h => ?_))))))
 refine Zi (.bool (((c7.toNat : Int) : Int) == 46)) (GL.nil (Yd h (fun u10 h => ?_) fun u10 h => ?_))
 refine Zo (Zm (Zm ?_))
 obtain ⟨h12, h13, h14, t11, h15, h⟩ := h
 refine Zv (OV.sliceStr (s := p_s) h12 h13 h14 h15 rfl rfl rfl rfl rfl rfl) (Zc h QdQ ?_)
 rintro _ H18 ⟨r17, rfl, h⟩
 refine Zm ?_
 obtain ⟨J20, h, hR21⟩ := h
 refine GL.cut (α := Bool) 6 J20 (fun b19 => [(30, .bool b19)]) ?_ ?_
 rcases h.em with ⟨u22, h⟩ | ⟨u22, h⟩
 refine Zu u22 Ym (Zu u22 Ym (Zu u22 (OV.ibin (v := .int .i64 (w .i64 (x3 + 1))) rfl rfl rfl) ?_))
 obtain ⟨h24, h25, h26, t23, h27, h⟩ := h
 refine Zu u22 (OV.sliceStr (s := p_s) h24 h25 h26 h27 rfl rfl rfl rfl rfl rfl) (GL.call h (Yt u22) rfl QdQ (vs := [sv t23]) rfl ?_)
 rintro _ H30 ⟨r29, rfl, h⟩
 refine Zt u22 ?_
 exact Yj I3 r29 h
 refine Zk u22 (Zk u22 (Zk u22 (Zk u22 (Zk u22 (Zn u22 ?_)))))
 exact Yj I3 false h
 intro b19 H31 h
 replace h := hR21 b19 H31 h
 refine Za (GL.nil ?_)
 exact Y1 I3 ⟨b19, rfl, h⟩
 refine GC.skip_to (fun _ _ h => h) (GC.region (Zm (Zi (.int .i64 (w .i64 (x3 + 1))) (Za ?_))))
 exact Yj I3 (w .i64 (x3 + 1)) h
 refine GC.exit_to (fun _ _ h => h) (Zo (Zm (Zc h QdQ ?_)))
 rintro _ H33 ⟨r32, rfl, h⟩
 refine Za (GL.nil ?_)
 exact Y1 I3 ⟨r32, rfl, h⟩
def Qey (C : Ctx) (p_s : Str) (K : Int → Heap → Prop) (H : Heap) : Prop :=
 ixs p_s 0 fun c1 =>
 ift (((c1.toNat : Int) : Int) == 45)
 (K (w .i64 ((List.length p_s : Int) - 1)) H)
 (K (List.length p_s : Int) H)
theorem Qhg (C p_s K H) (h : Qey C p_s K H) : Qc5 C p_s K H := by
 refine Ye Tryz.func149 rfl Tryz.ntmps149 [(0, sv p_s)] (Zo (Za (GL.nil (GC.seq (Zo (Zm (Ys h fun c1 h => ?_)))))))
 refine Zi (.bool (((c1.toNat : Int) : Int) == 45)) (GL.nil (Yd h (fun u4 h => ?_) fun u4 h => ?_))
 refine Zo (Zm (Zr (Zi (.int .i64 (w .i64 ((List.length p_s : Int) - 1))) (Za (GL.nil ?_)))))
 exact Y1 I3 ⟨(w .i64 ((List.length p_s : Int) - 1)), rfl, h⟩
 refine GC.skip (Zo (Zm (Zr (Za (GL.nil ?_)))))
 exact Y1 I3 ⟨(List.length p_s : Int), rfl, h⟩
def QcW (C : Ctx) (p_x : Int) (K : Bool → Heap → Prop) (H : Heap) : Prop :=
 K ((p_x : Int) != p_x) H
theorem QfD (C p_x K H) (h : QcW C p_x K H) : Qa3 C p_x K H := by
 refine Ye Tryz.func151 rfl Tryz.ntmps151 [(0, .int .u8 p_x)] (Zo (Za (GL.nil (Zo (Zm (Zm (Zi (.bool ((p_x : Int) != p_x)) (Za (GL.nil ?_)))))))))
 exact Y1 I3 ⟨((p_x : Int) != p_x), rfl, h⟩
def Qcj (C : Ctx) (p_s : Str) (p_prefix : Str) (K : Bool → Heap → Prop) (H : Heap) : Prop :=
 Qv C p_s p_prefix (fun r1 H2 =>
 K r1 H2) H
theorem QeX (C p_s p_prefix K H) (h : Qcj C p_s p_prefix K H) : Qaq C p_s p_prefix K H := by
 refine Ye Tryz.func152 rfl Tryz.ntmps152 [(0, sv p_s), (1, sv p_prefix)] (Zo (Za (GL.nil (Zo (Zm (Zm (Zc h Qac ?_)))))))
 rintro _ H2 ⟨r1, rfl, h⟩
 refine Za (GL.nil ?_)
 exact Y1 I3 ⟨r1, rfl, h⟩
def QcU (C : Ctx) (p_x : Int) (p_y : Int) (K : Int → Heap → Prop) (H : Heap) : Prop :=
 QbD C p_x (fun r1 H2 =>
 QbD C p_y (fun r3 H4 =>
 ift r1
 (ift r3
 (K 0 H4)
 (K (-1) H4))
 (ift r3
 (K 1 H4)
 (ift (decide ((p_x : Int) < p_y))
 (K (-1) H4)
 (ift (decide ((p_x : Int) > p_y))
 (K 1 H4)
 (K 0 H4))))) H2) H
theorem QfA (C p_x p_y K H) (h : QcU C p_x p_y K H) : QbM C p_x p_y K H := by
 refine Ye Tryz.func153 rfl Tryz.ntmps153 [(0, .int .i64 p_x), (1, .int .i64 p_y)] (Zo (Za (GL.nil (Zo (Zm (Zc h Qd1 ?_))))))
 rintro _ H2 ⟨r1, rfl, h⟩
 refine Za (GL.nil (Zo (Zm (Zc h Qd1 ?_))))
 rintro _ H4 ⟨r3, rfl, h⟩
 refine Za (GL.nil (GC.seq (Zo (Zm (GL.nil (Yd h (fun u5 h => ?_) fun u5 h => ?_))))))
 refine GC.seq (Zo (Zm (GL.nil (Yd h (fun u6 h => ?_) fun u6 h => ?_))))
 refine Zo (Za (GL.nil ?_))
 exact Y1 I3 ⟨0, rfl, h⟩
 refine GC.skip (Zo (Za (GL.nil ?_)))
 exact Y1 I3 ⟨(-1), rfl, h⟩
 refine GC.skip (GC.seq (Zo (Zm (GL.nil (Yd h (fun u7 h => ?_) fun u7 h => ?_)))))
 refine Zo (Za (GL.nil ?_))
 exact Y1 I3 ⟨1, rfl, h⟩
 refine GC.skip (GC.seq (Zo (Zm (Zm (Zi (.bool (decide ((p_x : Int) < p_y))) (GL.nil (Yd h (fun u8 h => ?_) fun u8 h => ?_)))))))
 refine Zo (Za (GL.nil ?_))
 exact Y1 I3 ⟨(-1), rfl, h⟩
 refine GC.skip (GC.seq (Zo (Zm (Zm (Zi (.bool (decide ((p_x : Int) > p_y))) (GL.nil (Yd h (fun u9 h => ?_) fun u9 h => ?_)))))))
 refine Zo (Za (GL.nil ?_))
 exact Y1 I3 ⟨1, rfl, h⟩
 refine GC.skip (Zo (Za (GL.nil ?_)))
 exact Y1 I3 ⟨0, rfl, h⟩
def QcV (C : Ctx) (p_x : Int) (K : Bool → Heap → Prop) (H : Heap) : Prop :=
 K ((p_x : Int) != p_x) H
theorem QfC (C p_x K H) (h : QcV C p_x K H) : Qa2 C p_x K H := by
 refine Ye Tryz.func154 rfl Tryz.ntmps154 [(0, .int .i64 p_x)] (Zo (Za (GL.nil (Zo (Zm (Zm (Zi (.bool ((p_x : Int) != p_x)) (Za (GL.nil ?_)))))))))
 exact Y1 I3 ⟨((p_x : Int) != p_x), rfl, h⟩
def Qb5 (C : Ctx) (p_s : Str) (p_prefix : Str) (K : Str → Heap → Prop) (H : Heap) : Prop :=
 Q6 C p_s p_prefix (fun r1 H2 =>
 K r1 H2) H
theorem Qei (C p_s p_prefix K H) (h : Qb5 C p_s p_prefix K H) : Qbc C p_s p_prefix K H := by
 refine Ye Tryz.func155 rfl Tryz.ntmps155 [(0, sv p_s), (1, sv p_prefix)] (Zo (Za (GL.nil (Zo (Zm (Zm (Zc h QbA ?_)))))))
 rintro _ H2 ⟨r1, rfl, h⟩
 refine Za (GL.nil ?_)
 exact Y1 I3 ⟨r1, rfl, h⟩
def QeC (C : Ctx) (p_s : Str) (p_cutset : Str) (K : Str → Heap → Prop) (H : Heap) : Prop :=
 ift ((p_s == ([] : Str)) || (p_cutset == ([] : Str)))
 (K p_s H)
 (jn (α := Bool) (fun b3 H10 =>
 ift b3
 (dr H10 fun Hs12 =>
 ixs p_cutset 0 fun c14 =>
 ixs p_cutset 0 fun c17 =>
 QdH C p_s (c14.toNat : Int) (fun r21 H22 =>
 Heap.le Hs12 H22 ∧
 Qeg C r21 (c17.toNat : Int) (fun r24 H25 =>
 Heap.le Hs12 H25 ∧
 K r24 H25) H22) H10)
 (Qu C p_cutset (fun r26 r27 H28 =>
 nw ((List.replicate 256 (.bool false : Value))) (fun b29 H30 =>
 stC 256 (b29, 0) r26 (fun H31 =>
 ift r27
 (Qaj C p_s (some (b29, 0)) (fun r35 H36 =>
 Qar C r35 (some (b29, 0)) (fun r37 H38 =>
 K r37 H38) H36) H31)
 (QcL C p_s p_cutset (fun r39 H40 =>
 Qc8 C r39 p_cutset (fun r41 H42 =>
 K r41 H42) H40) H31)) H30) H28) H10))
 (fun J4 => ift (((List.length p_cutset : Int) : Int) == 1)
 (ixs p_cutset 0 fun c7 =>
 J4 (decide (((c7.toNat : Int) : Int) < 128)) H)
 (J4 false H)))
theorem Qhk (C p_s p_cutset K H) (h : QeC C p_s p_cutset K H) : Qag C p_s p_cutset K H := by
 refine Ye Tryz.func156 rfl Tryz.ntmps156 [(0, sv p_s), (1, sv p_cutset)] (Zo (Za (GL.nil (GC.seq (Zo (Zm (Zv (OV.sbin (a := p_s) (b := ([] : Str)) (v := .bool (p_s == ([] : Str))) rfl rfl rfl) (Zm (GL.cut0 3 [(12, .bool ((p_s == ([] : Str)) || (p_cutset == ([] : Str)))), (0, sv p_s), (1, sv p_cutset)] ?_ ?_)))))))))
 rcases Zb (p_s == ([] : Str)) with u1 | u1
 refine Zk u1 (Zk u1 (Zt u1 ?_))
 exact GL.jump0 (fun _ _ h => h) () rfl ⟨(by rw [u1]; rfl), rfl, rfl, trivial⟩
 refine Zu u1 Ym (Zu u1 (OV.sbin (a := p_cutset) (b := ([] : Str)) (v := .bool (p_cutset == ([] : Str))) rfl rfl rfl) (Zn u1 ?_))
 exact GL.jump0 (fun _ _ h => h) () rfl ⟨(by rw [u1]; rfl), rfl, rfl, trivial⟩
 refine GL.nil (Yd h (fun u2 h => ?_) fun u2 h => ?_)
 refine Zo (Zm (Za (GL.nil ?_)))
 exact Y1 I3 ⟨p_s, rfl, h⟩
 refine GC.skip (GC.seq (Zo (Zm (Zr (Zi (.bool (((List.length p_cutset : Int) : Int) == 1)) (Zm ?_))))))
 obtain ⟨J4, h, hR5⟩ := h
 refine GL.cut (α := Bool) 4 J4 (fun b3 => [(21, .bool b3), (0, sv p_s), (1, sv p_cutset)]) ?_ ?_
 rcases h.em with ⟨u6, h⟩ | ⟨u6, h⟩
 refine Zu u6 Ym ?_
 obtain ⟨c7, ha8, hb9, h⟩ := h
 refine Zu u6 (OV.indexStr rfl rfl rfl ha8 hb9) (Zu u6 (OV.ibin (v := .bool (decide (((c7.toNat : Int) : Int) < 128))) rfl rfl rfl) (Zt u6 ?_))
 exact Yj I3 (decide (((c7.toNat : Int) : Int) < 128)) h
 refine Zk u6 (Zk u6 (Zk u6 (Zn u6 ?_)))
 exact Yj I3 false h
 intro b3 H10 h
 replace h := hR5 b3 H10 h
 refine GL.nil (Yd h (fun u11 h => ?_) fun u11 h => ?_)
 refine GC.seq ?_
 obtain ⟨Hs12, hle13, h⟩ := h
 refine GC.any (Hs := Hs12) (by kernel_rfl) hle13 (Zp 0 rfl Ym (Zp 1 rfl Ym ?_))
 obtain ⟨c14, ha15, hb16, h⟩ := h
 refine Zp 2 rfl (OV.indexStr rfl rfl rfl ha15 hb16) (Zp 4 rfl Ym ?_)
 obtain ⟨c17, ha18, hb19, h⟩ := h
 refine Zp 5 rfl (OV.indexStr rfl rfl rfl ha18 hb19) (GA.eff 3 rfl (by kernel_rfl) (Zc h Qdo ?_))
 rintro _ H22 ⟨r21, rfl, h⟩
 obtain ⟨hle20, h⟩ := h
 refine GA.back hle20 (GA.eff 6 rfl (by kernel_rfl) (Zc h QdU ?_))
 rintro _ H25 ⟨r24, rfl, h⟩
 obtain ⟨hle23, h⟩ := h
 refine GA.back hle23 (Zp 7 rfl Ya (GA.done (by kernel_rfl) (GL.nil ?_)))
 exact Y1 I3 ⟨r24, rfl, h⟩
 refine GC.skip (GC.seq (Zo (Zm (Zc h QdT ?_))))
 rintro _ H28 ⟨r26, r27, rfl, h⟩
 refine Zm (Yv (.agg (List.toArray r26)) rfl rfl (Yv (.bool r27) rfl rfl (GL.alloc (cs := (List.replicate 256 (.bool false : Value))) h trivial rfl rfl rfl ?_)))
 intro b29 H30 h
 obtain ⟨hl32, h133, h⟩ := h
 refine GL.storeT (p := (b29, 0)) (vs := r26) h trivial rfl rfl h133 (by rw [hl32]; rfl) ?_
 intro H31 h
 refine Za (GL.nil (Zo (Zm (GL.nil (Yd h (fun u34 h => ?_) fun u34 h => ?_)))))
 refine Zo (Zm (Zc h Qde ?_))
 rintro _ H36 ⟨r35, rfl, h⟩
 refine Zc h Qdn ?_
 rintro _ H38 ⟨r37, rfl, h⟩
 refine Za (GL.nil ?_)
 exact Y1 I3 ⟨r37, rfl, h⟩
 refine GC.skip (Zo (Zm (Zm (Zc h QcD ?_))))
 rintro _ H40 ⟨r39, rfl, h⟩
 refine Zm (Zc h QcM ?_)
 rintro _ H42 ⟨r41, rfl, h⟩
 refine Za (GL.nil ?_)
 exact Y1 I3 ⟨r41, rfl, h⟩
def QaZ (C : Ctx) (p_s : Str) (p_sep : Str) (K : Str → Str → Bool → Heap → Prop) (H : Heap) : Prop :=
 QX C p_s p_sep (fun r1 H2 =>
 ift (decide ((r1 : Int) ≥ 0))
 (slS p_s 0 r1 fun t4 =>
 slS p_s (w .i64 (r1 + (List.length p_sep : Int))) (List.length p_s : Int) fun t10 =>
 K t4 t10 true H2)
 (K p_s [] false H2)) H
theorem Qcv (C p_s p_sep K H) (h : QaZ C p_s p_sep K H) : Qa9 C p_s p_sep K H := by
 refine Ye Tryz.func157 rfl Tryz.ntmps157 [(0, sv p_s), (1, sv p_sep)] (Zo (Za (Za (Za (GL.nil (GC.seq (Zo (Zm (Zm (Zc h Qcb ?_))))))))))
 rintro _ H2 ⟨r1, rfl, h⟩
 refine Za (GL.nil (Zo (Zm (Zi (.bool (decide ((r1 : Int) ≥ 0))) (GL.nil (Yd h (fun u3 h => ?_) fun u3 h => ?_))))))
 refine GC.seq (GC.draw (by kernel_rfl) (by kernel_rfl) (GQ.val trivial rfl (OV.move (v := sv p_s) rfl) (GQ.val trivial rfl (OV.move (v := .int .i64 r1) rfl) ?_)))
 obtain ⟨h5, h6, h7, t4, h8, h⟩ := h
 refine GQ.val trivial rfl (OV.sliceStr (s := p_s) h5 h6 h7 h8 rfl rfl rfl rfl rfl rfl) (GQ.val trivial rfl (OV.move (v := sv p_s) rfl) (GQ.val trivial rfl (OV.move (v := .int .i64 r1) rfl) (GQ.val trivial rfl (OV.move (v := sv p_sep) rfl) (GQ.val trivial rfl (OV.lenStr (s := p_sep) rfl rfl) (GQ.val trivial rfl (OV.ibin (v := .int .i64 (w .i64 (r1 + (List.length p_sep : Int)))) rfl rfl rfl) ?_)))))
 obtain ⟨h11, h12, h13, t10, h14, h⟩ := h
 refine GQ.val trivial rfl (OV.sliceStr (s := p_s) h11 h12 h13 h14 rfl rfl rfl rfl rfl rfl) (GQ.val trivial rfl (OV.assign (v := sv t4) rfl) (GQ.val trivial rfl (OV.assign (v := sv t10) rfl) (GQ.val trivial rfl (OV.assign (v := .bool true) rfl) (GQ.nil (GL.nil ?_)))))
 exact Y3 I3 ⟨t4, t10, true, rfl, h⟩
 refine GC.skip (Zo (Zm (Za (Za (Za (GL.nil ?_))))))
 exact Y3 I3 ⟨p_s, [], false, rfl, h⟩
def Qf5 (C : Ctx) (p_s : Str) (K : Bool → Heap → Prop) (H : Heap) : Prop :=
 jn (α := Bool) (fun b2 H11 =>
 ift b2
 (K false H11)
 (lp (α := Int) 0 H11 (fun x13 J14 H15 =>
 ift (decide ((x13 : Int) < (List.length p_s : Int)))
 (ixs p_s x13 fun c17 =>
 QbQ C (c17.toNat : Int) (fun r20 H21 =>
 ift ((((!r20) && (!((decide (((c17.toNat : Int) : Int) ≥ 65)) && (decide (((c17.toNat : Int) : Int) ≤ 90))))) && (!((decide (((c17.toNat : Int) : Int) ≥ 48)) && (decide (((c17.toNat : Int) : Int) ≤ 57))))) && (((c17.toNat : Int) : Int) != 95))
 (K false H21)
 (J14 (w .i64 (x13 + 1)) H21)) H15)
 (K true H15))))
 (fun J3 => ift ((p_s == ([] : Str)) || (decide (((List.length p_s : Int) : Int) > 32)))
 (J3 true H)
 (ixs p_s 0 fun c6 =>
 QbQ C (c6.toNat : Int) (fun r9 H10 =>
 J3 (!r9) H10) H))
theorem QiO (C p_s K H) (h : Qf5 C p_s K H) : QbX C p_s K H := by
 refine Ye Tryz.func165 rfl Tryz.ntmps165 [(0, sv p_s)] (Zo (Za (GL.nil (GC.seq (Zo (Zm (Zv (OV.sbin (a := p_s) (b := ([] : Str)) (v := .bool (p_s == ([] : Str))) rfl rfl rfl) (Zm (GL.cut0 4 [(11, .bool ((p_s == ([] : Str)) || (decide (((List.length p_s : Int) : Int) > 32)))), (0, sv p_s)] ?_ ?_)))))))))
 rcases Zb (p_s == ([] : Str)) with hc1 | hc1
 refine Zk hc1 (Zk hc1 (Zk hc1 (Zt hc1 ?_)))
 exact GL.jump0 (fun _ _ h => h) () rfl ⟨(by rw [hc1]; rfl), rfl, trivial⟩
 refine Zu hc1 Ym (Zu hc1 (OV.lenStr rfl rfl) (Zu hc1 (OV.ibin (v := .bool (decide (((List.length p_s : Int) : Int) > 32))) rfl rfl rfl) (Zn hc1 ?_)))
 exact GL.jump0 (fun _ _ h => h) () rfl ⟨(by rw [hc1]; rfl), rfl, trivial⟩
 refine Zm ?_
 obtain ⟨J3, h, hR4⟩ := h
 refine GL.cut (α := Bool) 5 J3 (fun b2 => [(17, .bool b2), (0, sv p_s)]) ?_ ?_
 rcases h.em with ⟨hc5, h⟩ | ⟨hc5, h⟩
 refine Zk hc5 (Zk hc5 (Zk hc5 (Zk hc5 (Zt hc5 ?_))))
 exact Yj I3 true h
 refine Zu hc5 Ym ?_
 obtain ⟨c6, ha7, hb8, h⟩ := h
 refine Zu hc5 (OV.indexStr rfl rfl rfl ha7 hb8) (GL.call h (Yt hc5) rfl Qep (vs := [.int .u8 (c6.toNat : Int)]) rfl ?_)
 rintro _ H10 ⟨r9, rfl, h⟩
 refine Zu hc5 (OV.not rfl) (Zn hc5 ?_)
 exact Yj I3 (!r9) h
 intro b2 H11 h
 replace h := hR4 b2 H11 h
 refine GL.nil (Yd h (fun hc12 h => ?_) fun hc12 h => ?_)
 refine Zo (Za (GL.nil ?_))
 exact Y1 I3 ⟨false, rfl, h⟩
 refine GC.skip (GC.seq (Zo (Za (GL.nil (GC.block (Yp h (fun x13 => [(3, .int .i64 x13), (0, sv p_s)]) ?_))))))
 intro x13 H15 J14 h
 refine GC.seq (Zo (Zm (Zm (Zr (Zi (.bool (decide ((x13 : Int) < (List.length p_s : Int)))) (GL.nil (Yd h (fun hc16 h => ?_) fun hc16 h => ?_)))))))
 refine GC.skip (GC.seq (GC.block (Zo (Zm (Zm (Ys h fun c17 h => ?_))))))
 refine Za (GL.nil (Zo (Zm (Zc h Qep ?_))))
 rintro _ H21 ⟨r20, rfl, h⟩
 refine Zv (OV.not rfl) (Zm (GL.cut0 8 [(38, .bool ((!r20) && (!((decide (((c17.toNat : Int) : Int) ≥ 65)) && (decide (((c17.toNat : Int) : Int) ≤ 90)))))), (0, sv p_s), (3, .int .i64 x13), (4, .int .u8 (c17.toNat : Int))] ?_ ?_))
 rcases Zb (!r20) with hc22 | hc22
 refine Zu hc22 Ym (Zu hc22 (OV.ibin (v := .bool (decide (((c17.toNat : Int) : Int) ≥ 65))) rfl rfl rfl) (Zu hc22 Ym (GL.cut0 3 [(36, .bool ((decide (((c17.toNat : Int) : Int) ≥ 65)) && (decide (((c17.toNat : Int) : Int) ≤ 90)))), (0, sv p_s), (3, .int .i64 x13), (4, .int .u8 (c17.toNat : Int)), (30, .bool (!r20))] ?_ ?_)))
 rcases Zb (decide (((c17.toNat : Int) : Int) ≥ 65)) with hc23 | hc23
 refine Zu hc23 Ym (Zu hc23 (OV.ibin (v := .bool (decide (((c17.toNat : Int) : Int) ≤ 90))) rfl rfl rfl) (Zu hc22 (OV.pickT rfl hc23 rfl) ?_))
 exact GL.jump0 (fun _ _ h => h) () rfl ⟨(by rw [hc23]; rfl), rfl, rfl, rfl, rfl, trivial⟩
 refine Zk hc23 (Zk hc23 (Zu hc22 (OV.pickF rfl hc23 rfl) ?_))
 exact GL.jump0 (fun _ _ h => h) () rfl ⟨(by rw [hc23]; rfl), rfl, rfl, rfl, rfl, trivial⟩
 refine Zu hc22 (OV.not rfl) (Zt hc22 ?_)
 exact GL.jump0 (fun _ _ h => h) () rfl ⟨(by rw [hc22]; rfl), rfl, rfl, rfl, trivial⟩
 refine Zk hc22 (Zk hc22 (Zk hc22 (GL.skip ⟨_, rfl, .inr rfl⟩ rfl (GL.skip ⟨_, rfl, .inr rfl⟩ rfl (Zk hc22 (Zk hc22 (Zn hc22 ?_)))))))
 exact GL.jump0 (fun _ _ h => h) () rfl ⟨(by rw [hc22]; rfl), rfl, rfl, rfl, trivial⟩
 refine Zm (GL.cut0 8 [(47, .bool (((!r20) && (!((decide (((c17.toNat : Int) : Int) ≥ 65)) && (decide (((c17.toNat : Int) : Int) ≤ 90))))) && (!((decide (((c17.toNat : Int) : Int) ≥ 48)) && (decide (((c17.toNat : Int) : Int) ≤ 57)))))), (0, sv p_s), (3, .int .i64 x13), (4, .int .u8 (c17.toNat : Int))] ?_ ?_)
 rcases Zb ((!r20) && (!((decide (((c17.toNat : Int) : Int) ≥ 65)) && (decide (((c17.toNat : Int) : Int) ≤ 90))))) with hc24 | hc24
 refine Zu hc24 Ym (Zu hc24 (OV.ibin (v := .bool (decide (((c17.toNat : Int) : Int) ≥ 48))) rfl rfl rfl) (Zu hc24 Ym (GL.cut0 3 [(45, .bool ((decide (((c17.toNat : Int) : Int) ≥ 48)) && (decide (((c17.toNat : Int) : Int) ≤ 57)))), (0, sv p_s), (3, .int .i64 x13), (4, .int .u8 (c17.toNat : Int)), (39, .bool ((!r20) && (!((decide (((c17.toNat : Int) : Int) ≥ 65)) && (decide (((c17.toNat : Int) : Int) ≤ 90))))))] ?_ ?_)))
 rcases Zb (decide (((c17.toNat : Int) : Int) ≥ 48)) with hc25 | hc25
 refine Zu hc25 Ym (Zu hc25 (OV.ibin (v := .bool (decide (((c17.toNat : Int) : Int) ≤ 57))) rfl rfl rfl) (Zu hc24 (OV.pickT rfl hc25 rfl) ?_))
 exact GL.jump0 (fun _ _ h => h) () rfl ⟨(by rw [hc25]; rfl), rfl, rfl, rfl, rfl, trivial⟩
 refine Zk hc25 (Zk hc25 (Zu hc24 (OV.pickF rfl hc25 rfl) ?_))
 exact GL.jump0 (fun _ _ h => h) () rfl ⟨(by rw [hc25]; rfl), rfl, rfl, rfl, rfl, trivial⟩
 refine Zu hc24 (OV.not rfl) (Zt hc24 ?_)
 exact GL.jump0 (fun _ _ h => h) () rfl ⟨(by rw [hc24]; rfl), rfl, rfl, rfl, trivial⟩
 refine Zk hc24 (Zk hc24 (Zk hc24 (GL.skip ⟨_, rfl, .inr rfl⟩ rfl (GL.skip ⟨_, rfl, .inr rfl⟩ rfl (Zk hc24 (Zk hc24 (Zn hc24 ?_)))))))
 exact GL.jump0 (fun _ _ h => h) () rfl ⟨(by rw [hc24]; rfl), rfl, rfl, rfl, trivial⟩
 refine Zm (GL.cut0 3 [(51, .bool ((((!r20) && (!((decide (((c17.toNat : Int) : Int) ≥ 65)) && (decide (((c17.toNat : Int) : Int) ≤ 90))))) && (!((decide (((c17.toNat : Int) : Int) ≥ 48)) && (decide (((c17.toNat : Int) : Int) ≤ 57))))) && (((c17.toNat : Int) : Int) != 95))), (0, sv p_s), (3, .int .i64 x13)] ?_ ?_)
 rcases Zb (((!r20) && (!((decide (((c17.toNat : Int) : Int) ≥ 65)) && (decide (((c17.toNat : Int) : Int) ≤ 90))))) && (!((decide (((c17.toNat : Int) : Int) ≥ 48)) && (decide (((c17.toNat : Int) : Int) ≤ 57))))) with hc26 | hc26
 refine Zu hc26 Ym (Zu hc26 (OV.ibin (v := .bool (((c17.toNat : Int) : Int) != 95)) rfl rfl rfl) (Zt hc26 ?_))
 exact GL.jump0 (fun _ _ h => h) () rfl ⟨(by rw [hc26]; rfl), rfl, rfl, trivial⟩
 refine Zk hc26 (Zk hc26 (Zn hc26 ?_))
 exact GL.jump0 (fun _ _ h => h) () rfl ⟨(by rw [hc26]; rfl), rfl, rfl, trivial⟩
 refine GL.nil (Yd h (fun hc27 h => ?_) fun hc27 h => ?_)
 refine Zo (Za (GL.nil ?_))
 exact Y1 I3 ⟨false, rfl, h⟩
 refine GC.skip_to (fun _ _ h => h) (GC.region (Zm (Zi (.int .i64 (w .i64 (x13 + 1))) (Za ?_))))
 exact Yj I3 (w .i64 (x13 + 1)) h
 refine GC.exit_to (fun _ _ h => h) (Zo (Za (GL.nil ?_)))
 exact Y1 I3 ⟨true, rfl, h⟩
def Qae (C : Ctx) (p_s : Str) (p_prefix : Str) (K : Bool → Heap → Prop) (H : Heap) : Prop :=
 jn (α := Bool) (fun b1 H11 =>
 K b1 H11)
 (fun J2 => ift (decide (((List.length p_s : Int) : Int) ≥ (List.length p_prefix : Int)))
 (slS p_s 0 (List.length p_prefix : Int) fun t5 =>
 J2 (t5 == p_prefix) H)
 (J2 false H))
theorem QbB (C p_s p_prefix K H) (h : Qae C p_s p_prefix K H) : Qv C p_s p_prefix K H := by
 refine Ye Tryz.func166 rfl Tryz.ntmps166 [(0, sv p_s), (1, sv p_prefix)] (Zo (Za (GL.nil (Zo (Zm (Zr (Zm (Zr (Zi (.bool (decide (((List.length p_s : Int) : Int) ≥ (List.length p_prefix : Int)))) (Zm ?_))))))))))
 obtain ⟨J2, h, hR3⟩ := h
 refine GL.cut (α := Bool) 7 J2 (fun b1 => [(17, .bool b1)]) ?_ ?_
 rcases h.em with ⟨u4, h⟩ | ⟨u4, h⟩
 refine Zu u4 Ym (Zu u4 Ym (Zu u4 (OV.lenStr rfl rfl) ?_))
 obtain ⟨h6, h7, h8, t5, h9, h⟩ := h
 refine Zu u4 (OV.sliceStr (s := p_s) h6 h7 h8 h9 rfl rfl rfl rfl rfl rfl) (Zu u4 Ym (Zu u4 (OV.sbin (a := t5) (b := p_prefix) (v := .bool (t5 == p_prefix)) rfl rfl rfl) (Zt u4 ?_)))
 exact Yj I3 (t5 == p_prefix) h
 refine Zk u4 (Zk u4 (Zk u4 (Zk u4 (Zk u4 (Zk u4 (Zn u4 ?_))))))
 exact Yj I3 false h
 intro b1 H11 h
 replace h := hR3 b1 H11 h
 refine Za (GL.nil ?_)
 exact Y1 I3 ⟨b1, rfl, h⟩
def Qd5 (C : Ctx) (p_x : Int) (K : Bool → Heap → Prop) (H : Heap) : Prop :=
 K ((p_x : Int) != p_x) H
theorem QgU (C p_x K H) (h : Qd5 C p_x K H) : QbD C p_x K H := by
 refine Ye Tryz.func167 rfl Tryz.ntmps167 [(0, .int .i64 p_x)] (Zo (Za (GL.nil (Zo (Zm (Zm (Zi (.bool ((p_x : Int) != p_x)) (Za (GL.nil ?_)))))))))
 exact Y1 I3 ⟨((p_x : Int) != p_x), rfl, h⟩
def Q3 (C : Ctx) (p_s : Str) (p_prefix : Str) (K : Str → Heap → Prop) (H : Heap) : Prop :=
 Qv C p_s p_prefix (fun r1 H2 =>
 ift r1
 (slS p_s (List.length p_prefix : Int) (List.length p_s : Int) fun t4 =>
 K t4 H2)
 (K p_s H2)) H
theorem Qbz (C p_s p_prefix K H) (h : Q3 C p_s p_prefix K H) : Q6 C p_s p_prefix K H := by
 refine Ye Tryz.func168 rfl Tryz.ntmps168 [(0, sv p_s), (1, sv p_prefix)] (Zo (Za (GL.nil (GC.seq (Zo (Zm (Zm (Zc h Qac ?_))))))))
 rintro _ H2 ⟨r1, rfl, h⟩
 refine GL.nil (Yd h (fun u3 h => ?_) fun u3 h => ?_)
 refine Zo (Zm (Zm (Zr ?_)))
 obtain ⟨h5, h6, h7, t4, h8, h⟩ := h
 refine Zv (OV.sliceStr (s := p_s) h5 h6 h7 h8 rfl rfl rfl rfl rfl rfl) (Za (GL.nil ?_))
 exact Y1 I3 ⟨t4, rfl, h⟩
 refine GC.skip (Zo (Zm (Za (GL.nil ?_))))
 exact Y1 I3 ⟨p_s, rfl, h⟩
def QbL (C : Ctx) (p_chars : Str) (K : List Value → Bool → Heap → Prop) (H : Heap) : Prop :=
 nw ((List.replicate 256 (.bool false : Value))) (fun b1 H2 =>
 lp (α := Int) 0 H2 (fun x3 J4 H5 =>
 ift (decide ((x3 : Int) < (List.length p_chars : Int)))
 (ixs p_chars x3 fun c7 =>
 ift (decide (((c7.toNat : Int) : Int) ≥ 128))
 (ldC H5 256 (b1, 0) fun x11 =>
 stC 256 (b1, 0) x11 (fun H14 =>
 ldC H14 256 (b1, 0) fun x17 =>
 K x17 false H14) H5)
 (ixr (b1, 0) 256 (c7.toNat : Int) <|
 st ((b1, 0).1, (b1, 0).2 + ((c7.toNat : Int) : Int).toNat * 1) (.bool true) (fun H22 =>
 J4 (w .i64 (x3 + 1)) H22) H5))
 (ldC H5 256 (b1, 0) fun x23 =>
 stC 256 (b1, 0) x23 (fun H26 =>
 ldC H26 256 (b1, 0) fun x29 =>
 K x29 true H26) H5))) H
theorem QdA (C p_chars K H) (h : QbL C p_chars K H) : Qu C p_chars K H := by
 refine Ye Tryz.func171 rfl Tryz.ntmps171 [(0, sv p_chars)] (Zo (GL.alloc (cs := (List.replicate 256 (.bool false : Value))) h trivial rfl rfl rfl ?_))
 intro b1 H2 h
 refine Za (GL.nil (GC.seq (Zo (Za (GL.nil (GC.block (Yp h (fun x3 => [(4, .int .i64 x3), (0, sv p_chars), (2, pv (some (b1, 0)))]) ?_)))))))
 intro x3 H5 J4 h
 refine GC.seq (Zo (Zm (Zm (Zr (Zi (.bool (decide ((x3 : Int) < (List.length p_chars : Int)))) (GL.nil (Yd h (fun u6 h => ?_) fun u6 h => ?_)))))))
 refine GC.skip (GC.seq (GC.block (Zo (Zm (Zm (Ys h fun c7 h => ?_))))))
 refine Za (GL.nil (GC.seq (Zo (Zm (Zi (.bool (decide (((c7.toNat : Int) : Int) ≥ 128))) (GL.nil (Yd h (fun u10 h => ?_) fun u10 h => ?_)))))))
 refine Zo ?_
 obtain ⟨x11, hl13, v12, h⟩ := h
 refine Zv (OV.loadT (p := (b1, 0)) (cs := x11) rfl rfl (by rw [hl13]; rfl) v12) ?_
 obtain ⟨hl15, h116, h⟩ := h
 refine GL.storeT (p := (b1, 0)) (vs := x11) h trivial rfl rfl h116 (by rw [hl15]; rfl) ?_
 intro H14 h
 refine Za (GL.nil ?_)
 obtain ⟨x17, hl19, v18, h⟩ := h
 exact GC.ret (fun _ _ hf hs => QjR rfl (RV.cellT (p := (b1, 0)) (cs := x17) rfl rfl (by rw [hl19]; rfl) v18) (RV.tmp rfl) hf hs ⟨x17, false, rfl, h⟩)
 refine GC.skip (GC.region (Zm ?_))
 obtain ⟨ha20, hb21, h⟩ := h
 refine Zv (OV.indexAddrA (p := (b1, 0)) rfl rfl rfl rfl ha20 hb21) (GL.store (p := ((b1, 0).1, (b1, 0).2 + ((c7.toNat : Int) : Int).toNat * 1)) (v := .bool true) h trivial rfl rfl rfl rfl ?_)
 intro H22 h
 refine GL.nil_to (fun _ _ h => h) (GC.region (Zm (Zi (.int .i64 (w .i64 (x3 + 1))) (Za ?_))))
 exact Yj I3 (w .i64 (x3 + 1)) h
 refine GC.exit_to (fun _ _ h => h) (Zo ?_)
 obtain ⟨x23, hl25, v24, h⟩ := h
 refine Zv (OV.loadT (p := (b1, 0)) (cs := x23) rfl rfl (by rw [hl25]; rfl) v24) ?_
 obtain ⟨hl27, h128, h⟩ := h
 refine GL.storeT (p := (b1, 0)) (vs := x23) h trivial rfl rfl h128 (by rw [hl27]; rfl) ?_
 intro H26 h
 refine Za (GL.nil ?_)
 obtain ⟨x29, hl31, v30, h⟩ := h
 exact GC.ret (fun _ _ hf hs => QjR rfl (RV.cellT (p := (b1, 0)) (cs := x29) rfl rfl (by rw [hl31]; rfl) v30) (RV.tmp rfl) hf hs ⟨x29, true, rfl, h⟩)
def Qby (C : Ctx) (p_s : Str) (p_as : Option (Nat × Nat)) (K : Str → Heap → Prop) (H : Heap) : Prop :=
 jn (α := Str) (fun x2 H3 =>
 K x2 H3)
 (fun J1 => lp (α := Str) p_s H (fun x5 J6 H7 =>
 ift (decide (((List.length x5 : Int) : Int) > 0))
 (ixs x5 0 fun c9 =>
 QH C p_as (c9.toNat : Int) (fun r12 H13 =>
 ift (!r12)
 (J1 x5 H13)
 (slS x5 1 (List.length x5 : Int) fun t15 =>
 J6 t15 H13)) H7)
 (J1 x5 H7)))
theorem Qdi (C p_s p_as K H) (h : Qby C p_s p_as K H) : Qar C p_s p_as K H := by
 refine Ye Tryz.func172 rfl Tryz.ntmps172 [(0, sv p_s), (1, pv p_as)] (Zo (Za (GL.nil ?_)))
 obtain ⟨J1, h, hR4⟩ := h
 refine GC.join (α := Str) J1 (fun x2 => [(0, sv x2)]) ?_ ?_
 refine GC.block (Yp h (fun x5 => [(0, sv x5), (1, pv p_as)]) ?_)
 intro x5 H7 J6 h
 refine GC.seq (Zo (Zm (Zr (Zi (.bool (decide (((List.length x5 : Int) : Int) > 0))) (GL.nil (Yd h (fun u8 h => ?_) fun u8 h => ?_))))))
 refine GC.skip (GC.block (GC.seq (Zo (Zm (Zm (Ys h fun c9 h => ?_))))))
 refine Zc h QaJ ?_
 rintro _ H13 ⟨r12, rfl, h⟩
 refine Zv (OV.not rfl) (GL.nil (Yd h (fun u14 h => ?_) fun u14 h => ?_))
 exact GC.exit_jump (fun _ _ h => h) x5 h ⟨rfl, trivial⟩
 refine GC.skip (GC.region (Zm ?_))
 obtain ⟨h16, h17, h18, t15, h19, h⟩ := h
 refine Zv (OV.sliceStr (s := x5) h16 h17 h18 h19 rfl rfl rfl rfl rfl rfl) (Za ?_)
 exact Yj I3 t15 h
 exact GC.exit_jump (fun _ _ h => h) x5 h ⟨rfl, trivial⟩
 intro x2 H3 h
 replace h := hR4 x2 H3 h
 refine Zo (Zm (Za (GL.nil ?_)))
 exact Y1 I3 ⟨x2, rfl, h⟩
def Qbh (C : Ctx) (p_s : Str) (p_as : Option (Nat × Nat)) (K : Str → Heap → Prop) (H : Heap) : Prop :=
 jn (α := Str) (fun x2 H3 =>
 K x2 H3)
 (fun J1 => lp (α := Str) p_s H (fun x5 J6 H7 =>
 ift (decide (((List.length x5 : Int) : Int) > 0))
 (ixs x5 (w .i64 ((List.length x5 : Int) - 1)) fun c9 =>
 QH C p_as (c9.toNat : Int) (fun r12 H13 =>
 ift (!r12)
 (J1 x5 H13)
 (slS x5 0 (w .i64 ((List.length x5 : Int) - 1)) fun t15 =>
 J6 t15 H13)) H7)
 (J1 x5 H7)))
theorem Qc4 (C p_s p_as K H) (h : Qbh C p_s p_as K H) : Qaj C p_s p_as K H := by
 refine Ye Tryz.func173 rfl Tryz.ntmps173 [(0, sv p_s), (1, pv p_as)] (Zo (Za (GL.nil ?_)))
 obtain ⟨J1, h, hR4⟩ := h
 refine GC.join (α := Str) J1 (fun x2 => [(0, sv x2)]) ?_ ?_
 refine GC.block (Yp h (fun x5 => [(0, sv x5), (1, pv p_as)]) ?_)
 intro x5 H7 J6 h
 refine GC.seq (Zo (Zm (Zr (Zi (.bool (decide (((List.length x5 : Int) : Int) > 0))) (GL.nil (Yd h (fun u8 h => ?_) fun u8 h => ?_))))))
 refine GC.skip (GC.block (GC.seq (Zo (Zm (Zm (Zm (Zr (Zi (.int .i64 (w .i64 ((List.length x5 : Int) - 1))) (Ys h fun c9 h => ?_)))))))))
 refine Zc h QaJ ?_
 rintro _ H13 ⟨r12, rfl, h⟩
 refine Zv (OV.not rfl) (GL.nil (Yd h (fun u14 h => ?_) fun u14 h => ?_))
 exact GC.exit_jump (fun _ _ h => h) x5 h ⟨rfl, trivial⟩
 refine GC.skip (GC.region (Zm (Zm (Zr (Zi (.int .i64 (w .i64 ((List.length x5 : Int) - 1))) ?_)))))
 obtain ⟨h16, h17, h18, t15, h19, h⟩ := h
 refine Zv (OV.sliceStr (s := x5) h16 h17 h18 h19 rfl rfl rfl rfl rfl rfl) (Za ?_)
 exact Yj I3 t15 h
 exact GC.exit_jump (fun _ _ h => h) x5 h ⟨rfl, trivial⟩
 intro x2 H3 h
 replace h := hR4 x2 H3 h
 refine Zo (Zm (Za (GL.nil ?_)))
 exact Y1 I3 ⟨x2, rfl, h⟩
def QaB (C : Ctx) (p_s : Str) (p_substr : Str) (K : Int → Heap → Prop) (H : Heap) : Prop :=
 ift ((((List.length p_substr : Int) : Int) == 0) || (p_substr == p_s))
 (K 0 H)
 (ift (((List.length p_substr : Int) : Int) == 1)
 (ixs p_substr 0 fun c4 =>
 QL C p_s (c4.toNat : Int) (fun r7 H8 =>
 K r7 H8) H)
 (ift (decide (((List.length p_substr : Int) : Int) ≥ (List.length p_s : Int)))
 (K (-1) H)
 (ldI H .i64 (1, 0) fun x10 =>
 ift ((decide (((List.length p_substr : Int) : Int) ≤ x10)) && (decide (((List.length p_s : Int) : Int) ≤ 64)))
 (False)
 (ixs p_substr 0 fun c14 =>
 ixs p_substr 1 fun c17 =>
 lp (α := Int × Int) (0, 0) H (fun x20 J21 H22 =>
 ift (decide ((x20.1 : Int) < (w .i64 ((w .i64 ((List.length p_s : Int) - (List.length p_substr : Int))) + 1))))
 (jn (α := Int) (fun x25 H26 =>
 ixs p_s (w .i64 (x25 + 1)) fun c41 =>
 jn (α := Bool) (fun b44 H54 =>
 ift b44
 (K x25 H54)
 (ldI H54 .i64 (1, 0) fun x56 =>
 jn (α := Bool) (fun b58 H64 =>
 ift b58
 (False)
 (ldI H64 .i64 (1, 0) fun x72 =>
 ift (((decide (((List.length p_substr : Int) : Int) > x72)) && (decide (((w .i64 (x20.2 + 1)) : Int) ≥ (w .i64 (4 + (sShr .i64 (w .i64 (x25 + 1)) 4)))))) && (decide (((w .i64 (x25 + 1)) : Int) < (w .i64 ((w .i64 ((List.length p_s : Int) - (List.length p_substr : Int))) + 1)))))
 (slS p_s (w .i64 (x25 + 1)) (List.length p_s : Int) fun t77 =>
 QaO C t77 p_substr (fun r83 H84 =>
 ift (decide ((r83 : Int) < 0))
 (K (-1) H84)
 (K (w .i64 ((w .i64 (x25 + 1)) + r83)) H84)) H64)
 (J21 ((w .i64 (x25 + 1)), (w .i64 (x20.2 + 1))) H64)))
 (fun J59 => ift (decide (((List.length p_substr : Int) : Int) ≤ x56))
 (QcK C (w .i64 (x25 + 1)) (fun r62 H63 =>
 J59 (decide (((w .i64 (x20.2 + 1)) : Int) > r62)) H63) H54)
 (J59 false H54))))
 (fun J45 => ift (((c41.toNat : Int) : Int) == (c17.toNat : Int))
 (slS p_s x25 (w .i64 (x25 + (List.length p_substr : Int))) fun t48 =>
 J45 (t48 == p_substr) H26)
 (J45 false H26)))
 (fun J24 => ixs p_s x20.1 fun c28 =>
 ift (((c28.toNat : Int) : Int) != (c14.toNat : Int))
 (slS p_s (w .i64 (x20.1 + 1)) (w .i64 ((w .i64 ((List.length p_s : Int) - (List.length p_substr : Int))) + 1)) fun t32 =>
 QL C t32 (c14.toNat : Int) (fun r38 H39 =>
 ift (decide ((r38 : Int) < 0))
 (K (-1) H39)
 (J24 (w .i64 (x20.1 + (w .i64 (r38 + 1)))) H39)) H22)
 (J24 x20.1 H22)))
 (K (-1) H22))))))
theorem Qb7 (C p_s p_substr K H) (h : QaB C p_s p_substr K H) : QX C p_s p_substr K H := by
 refine Ye Tryz.func176 rfl Tryz.ntmps176 [(0, sv p_s), (1, sv p_substr)] (Zo (Za (GL.nil (Zo (Zm (Zr (Za (GL.nil (GC.seq (GC.block (Zo (Zm (Zi (.bool (((List.length p_substr : Int) : Int) == 0)) (Zm (GL.cut0 4 [(23, .bool ((((List.length p_substr : Int) : Int) == 0) || (p_substr == p_s))), (0, sv p_s), (1, sv p_substr), (5, .int .i64 (List.length p_substr : Int))] ?_ ?_)))))))))))))))
 rcases Zb (((List.length p_substr : Int) : Int) == 0) with hc1 | hc1
 refine Zk hc1 (Zk hc1 (Zk hc1 (Zt hc1 ?_)))
 exact GL.jump0 (fun _ _ h => h) () rfl ⟨(by rw [hc1]; rfl), rfl, rfl, rfl, trivial⟩
 refine Zu hc1 Ym (Zu hc1 Ym (Zu hc1 (OV.sbin (a := p_substr) (b := p_s) (v := .bool (p_substr == p_s)) rfl rfl rfl) (Zn hc1 ?_)))
 exact GL.jump0 (fun _ _ h => h) () rfl ⟨(by rw [hc1]; rfl), rfl, rfl, rfl, trivial⟩
 refine Za (GL.nil (Yd h (fun hc2 h => ?_) fun hc2 h => ?_))
 refine Zo (Za (GL.nil ?_))
 exact Y1 I3 ⟨0, rfl, h⟩
 refine Zo (Zm (Zi (.bool (((List.length p_substr : Int) : Int) == 1)) (Za (GL.nil (Yd h (fun hc3 h => ?_) fun hc3 h => ?_)))))
 refine Zo (Zm (Zm (Ys h fun c4 h => ?_)))
 refine Zc h Qad ?_
 rintro _ H8 ⟨r7, rfl, h⟩
 refine Za (GL.nil ?_)
 exact Y1 I3 ⟨r7, rfl, h⟩
 refine Zo (Zm (Zm (Zr (Zi (.bool (decide (((List.length p_substr : Int) : Int) ≥ (List.length p_s : Int)))) (Za (GL.nil (Yd h (fun hc9 h => ?_) fun hc9 h => ?_)))))))
 refine Zo (Za (GL.nil ?_))
 exact Y1 I3 ⟨(-1), rfl, h⟩
 refine Zo (Zm (Yl h fun x10 h => ?_))
 refine Zi (.bool (decide (((List.length p_substr : Int) : Int) ≤ x10))) (Zm (GL.cut0 4 [(44, .bool ((decide (((List.length p_substr : Int) : Int) ≤ x10)) && (decide (((List.length p_s : Int) : Int) ≤ 64)))), (0, sv p_s), (1, sv p_substr), (5, .int .i64 (List.length p_substr : Int))] ?_ ?_))
 rcases Zb (decide (((List.length p_substr : Int) : Int) ≤ x10)) with hc12 | hc12
 refine Zu hc12 Ym (Zu hc12 (OV.lenStr rfl rfl) (Zu hc12 (OV.ibin (v := .bool (decide (((List.length p_s : Int) : Int) ≤ 64))) rfl rfl rfl) (Zt hc12 ?_)))
 exact GL.jump0 (fun _ _ h => h) () rfl ⟨(by rw [hc12]; rfl), rfl, rfl, rfl, trivial⟩
 refine Zk hc12 (Zk hc12 (Zk hc12 (Zn hc12 ?_)))
 exact GL.jump0 (fun _ _ h => h) () rfl ⟨(by rw [hc12]; rfl), rfl, rfl, rfl, trivial⟩
 refine Za (GL.nil (Yd h (fun hc13 h => ?_) fun hc13 h => ?_))
 refine GC.seq ?_
 exact GC.never h
 refine GC.skip_to (fun _ _ h => h) (Zo (Zm ?_))
 refine Ys h fun c14 h => ?_
 refine Za (GL.nil (Zo (Zm (Ys h fun c17 h => ?_))))
 refine Za (GL.nil (Zo (Za (GL.nil (Zo (Zm (Zr (Zm (Zi (.int .i64 (w .i64 ((List.length p_s : Int) - (List.length p_substr : Int)))) (Zi (.int .i64 (w .i64 ((w .i64 ((List.length p_s : Int) - (List.length p_substr : Int))) + 1))) (Za (GL.nil (Zo (Za (GL.nil (GC.seq (GC.block (Yp h (fun x20 => [(8, .int .i64 x20.1), (10, .int .i64 x20.2), (0, sv p_s), (1, sv p_substr), (5, .int .i64 (List.length p_substr : Int)), (6, .int .u8 (c14.toNat : Int)), (7, .int .u8 (c17.toNat : Int)), (9, .int .i64 (w .i64 ((w .i64 ((List.length p_s : Int) - (List.length p_substr : Int))) + 1)))]) ?_))))))))))))))))))
 intro x20 H22 J21 h
 refine GC.seq (Zo (Zm (Zm (Zi (.bool (decide ((x20.1 : Int) < (w .i64 ((w .i64 ((List.length p_s : Int) - (List.length p_substr : Int))) + 1))))) (GL.nil (Yd h (fun hc23 h => ?_) fun hc23 h => ?_))))))
 refine GC.skip (GC.block ?_)
 obtain ⟨J24, h, hR27⟩ := h
 refine GC.join (α := Int) J24 (fun x25 => [(8, .int .i64 x25), (0, sv p_s), (1, sv p_substr), (5, .int .i64 (List.length p_substr : Int)), (6, .int .u8 (c14.toNat : Int)), (7, .int .u8 (c17.toNat : Int)), (9, .int .i64 (w .i64 ((w .i64 ((List.length p_s : Int) - (List.length p_substr : Int))) + 1))), (10, .int .i64 x20.2)]) ?_ ?_
 refine Zo (Zm (Zm (Ys h fun c28 h => ?_)))
 refine Zm (Zi (.bool (((c28.toNat : Int) : Int) != (c14.toNat : Int))) (GL.nil (Yd h (fun hc31 h => ?_) fun hc31 h => ?_)))
 refine Zo (Zm (Zm (Zi (.int .i64 (w .i64 (x20.1 + 1))) (Zm ?_))))
 obtain ⟨h33, h34, h35, t32, h36, h⟩ := h
 refine Zv (OV.sliceStr (s := p_s) h33 h34 h35 h36 rfl rfl rfl rfl rfl rfl) (Zm (Zc h Qad ?_))
 rintro _ H39 ⟨r38, rfl, h⟩
 refine Za (GL.nil (GC.seq (Zo (Zm (Zi (.bool (decide ((r38 : Int) < 0))) (GL.nil (Yd h (fun hc40 h => ?_) fun hc40 h => ?_)))))))
 refine Zo (Za (GL.nil ?_))
 exact Y1 I3 ⟨(-1), rfl, h⟩
 refine GC.skip (GC.region (Zm (Zm (Zi (.int .i64 (w .i64 (r38 + 1))) (Zi (.int .i64 (w .i64 (x20.1 + (w .i64 (r38 + 1))))) (Za ?_))))))
 exact Yj I3 (w .i64 (x20.1 + (w .i64 (r38 + 1)))) h
 exact Yk I3 x20.1 h
 intro x25 H26 h
 replace h := hR27 x25 H26 h
 refine GC.seq (Zo (Zm (Zm (Zi (.int .i64 (w .i64 (x25 + 1))) (Ys h fun c41 h => ?_)))))
 refine Zm (Zi (.bool (((c41.toNat : Int) : Int) == (c17.toNat : Int))) (Zm ?_))
 obtain ⟨J45, h, hR46⟩ := h
 refine GL.cut (α := Bool) 9 J45 (fun b44 => [(93, .bool b44), (0, sv p_s), (1, sv p_substr), (5, .int .i64 (List.length p_substr : Int)), (6, .int .u8 (c14.toNat : Int)), (7, .int .u8 (c17.toNat : Int)), (8, .int .i64 x25), (9, .int .i64 (w .i64 ((w .i64 ((List.length p_s : Int) - (List.length p_substr : Int))) + 1))), (10, .int .i64 x20.2)]) ?_ ?_
 rcases h.em with ⟨hc47, h⟩ | ⟨hc47, h⟩
 refine Zu hc47 Ym (Zu hc47 Ym (Zu hc47 Ym (Zu hc47 Ym (Zu hc47 (OV.ibin (v := .int .i64 (w .i64 (x25 + (List.length p_substr : Int)))) rfl rfl rfl) ?_))))
 obtain ⟨h49, h50, h51, t48, h52, h⟩ := h
 refine Zu hc47 (OV.sliceStr (s := p_s) h49 h50 h51 h52 rfl rfl rfl rfl rfl rfl) (Zu hc47 Ym (Zu hc47 (OV.sbin (a := t48) (b := p_substr) (v := .bool (t48 == p_substr)) rfl rfl rfl) (Zt hc47 ?_)))
 exact Yj I3 (t48 == p_substr) h
 refine Zk hc47 (Zk hc47 (Zk hc47 (Zk hc47 (Zk hc47 (Zk hc47 (Zk hc47 (Zk hc47 (Zn hc47 ?_))))))))
 exact Yj I3 false h
 intro b44 H54 h
 replace h := hR46 b44 H54 h
 refine GL.nil (Yd h (fun hc55 h => ?_) fun hc55 h => ?_)
 refine Zo (Zm (Za (GL.nil ?_)))
 exact Y1 I3 ⟨x25, rfl, h⟩
 refine GC.skip (Zo (Zm (Zi (.int .i64 (w .i64 (x25 + 1))) (Za (GL.nil (Zo (Zm (Zi (.int .i64 (w .i64 (x20.2 + 1))) (Za (GL.nil (Zo (Zm (Yl h fun x56 h => ?_)))))))))))))
 refine Zi (.bool (decide (((List.length p_substr : Int) : Int) ≤ x56))) (Zm ?_)
 obtain ⟨J59, h, hR60⟩ := h
 refine GL.cut (α := Bool) 5 J59 (fun b58 => [(107, .bool b58), (0, sv p_s), (1, sv p_substr), (5, .int .i64 (List.length p_substr : Int)), (6, .int .u8 (c14.toNat : Int)), (7, .int .u8 (c17.toNat : Int)), (8, .int .i64 (w .i64 (x25 + 1))), (9, .int .i64 (w .i64 ((w .i64 ((List.length p_s : Int) - (List.length p_substr : Int))) + 1))), (10, .int .i64 (w .i64 (x20.2 + 1)))]) ?_ ?_
 rcases h.em with ⟨hc61, h⟩ | ⟨hc61, h⟩
 refine Zu hc61 Ym (Zu hc61 Ym (GL.call h (Yt hc61) rfl QcB (vs := [.int .i64 (w .i64 (x25 + 1))]) rfl ?_))
 rintro _ H63 ⟨r62, rfl, h⟩
 refine Zu hc61 (OV.ibin (v := .bool (decide (((w .i64 (x20.2 + 1)) : Int) > r62))) rfl rfl rfl) (Zt hc61 ?_)
 exact Yj I3 (decide (((w .i64 (x20.2 + 1)) : Int) > r62)) h
 refine Zk hc61 (Zk hc61 (Zk hc61 (Zk hc61 (Zn hc61 ?_))))
 exact Yj I3 false h
 intro b58 H64 h
 replace h := hR60 b58 H64 h
 refine GL.nil (Yd h (fun hc65 h => ?_) fun hc65 h => ?_)
 refine GC.seq ?_
 exact GC.never h
 refine Zo (Zm (Yl h fun x72 h => ?_))
 refine Zi (.bool (decide (((List.length p_substr : Int) : Int) > x72))) (Zm (GL.cut0 6 [(127, .bool ((decide (((List.length p_substr : Int) : Int) > x72)) && (decide (((w .i64 (x20.2 + 1)) : Int) ≥ (w .i64 (4 + (sShr .i64 (w .i64 (x25 + 1)) 4))))))), (0, sv p_s), (1, sv p_substr), (5, .int .i64 (List.length p_substr : Int)), (6, .int .u8 (c14.toNat : Int)), (7, .int .u8 (c17.toNat : Int)), (8, .int .i64 (w .i64 (x25 + 1))), (9, .int .i64 (w .i64 ((w .i64 ((List.length p_s : Int) - (List.length p_substr : Int))) + 1))), (10, .int .i64 (w .i64 (x20.2 + 1)))] ?_ ?_))
 rcases Zb (decide (((List.length p_substr : Int) : Int) > x72)) with hc74 | hc74
 refine Zu hc74 Ym (Zu hc74 Ym (Zu hc74 (OV.shr rfl rfl (by decide)) (Zu hc74 (OV.ibin (v := .int .i64 (w .i64 (4 + (sShr .i64 (w .i64 (x25 + 1)) 4)))) rfl rfl rfl) (Zu hc74 (OV.ibin (v := .bool (decide (((w .i64 (x20.2 + 1)) : Int) ≥ (w .i64 (4 + (sShr .i64 (w .i64 (x25 + 1)) 4)))))) rfl rfl rfl) (Zt hc74 ?_)))))
 exact GL.jump0 (fun _ _ h => h) () rfl ⟨(by rw [hc74]; rfl), rfl, rfl, rfl, rfl, rfl, rfl, rfl, rfl, trivial⟩
 refine Zk hc74 (Zk hc74 (Zk hc74 (Zk hc74 (Zk hc74 (Zn hc74 ?_)))))
 exact GL.jump0 (fun _ _ h => h) () rfl ⟨(by rw [hc74]; rfl), rfl, rfl, rfl, rfl, rfl, rfl, rfl, rfl, trivial⟩
 refine Zm (GL.cut0 4 [(132, .bool (((decide (((List.length p_substr : Int) : Int) > x72)) && (decide (((w .i64 (x20.2 + 1)) : Int) ≥ (w .i64 (4 + (sShr .i64 (w .i64 (x25 + 1)) 4)))))) && (decide (((w .i64 (x25 + 1)) : Int) < (w .i64 ((w .i64 ((List.length p_s : Int) - (List.length p_substr : Int))) + 1)))))), (0, sv p_s), (1, sv p_substr), (5, .int .i64 (List.length p_substr : Int)), (6, .int .u8 (c14.toNat : Int)), (7, .int .u8 (c17.toNat : Int)), (8, .int .i64 (w .i64 (x25 + 1))), (9, .int .i64 (w .i64 ((w .i64 ((List.length p_s : Int) - (List.length p_substr : Int))) + 1))), (10, .int .i64 (w .i64 (x20.2 + 1)))] ?_ ?_)
 rcases Zb ((decide (((List.length p_substr : Int) : Int) > x72)) && (decide (((w .i64 (x20.2 + 1)) : Int) ≥ (w .i64 (4 + (sShr .i64 (w .i64 (x25 + 1)) 4)))))) with hc75 | hc75
 refine Zu hc75 Ym (Zu hc75 Ym (Zu hc75 (OV.ibin (v := .bool (decide (((w .i64 (x25 + 1)) : Int) < (w .i64 ((w .i64 ((List.length p_s : Int) - (List.length p_substr : Int))) + 1))))) rfl rfl rfl) (Zt hc75 ?_)))
 exact GL.jump0 (fun _ _ h => h) () rfl ⟨(by rw [hc75]; rfl), rfl, rfl, rfl, rfl, rfl, rfl, rfl, rfl, trivial⟩
 refine Zk hc75 (Zk hc75 (Zk hc75 (Zn hc75 ?_)))
 exact GL.jump0 (fun _ _ h => h) () rfl ⟨(by rw [hc75]; rfl), rfl, rfl, rfl, rfl, rfl, rfl, rfl, rfl, trivial⟩
 refine GL.nil (Yd h (fun hc76 h => ?_) fun hc76 h => ?_)
 refine Zo (Zm (Zm ?_))
 obtain ⟨h78, h79, h80, t77, h81, h⟩ := h
 refine Zv (OV.sliceStr (s := p_s) h78 h79 h80 h81 rfl rfl rfl rfl rfl rfl) (Zm (Zc h QaG ?_))
 rintro _ H84 ⟨r83, rfl, h⟩
 refine Za (GL.nil (GC.seq (Zo (Zm (Zi (.bool (decide ((r83 : Int) < 0))) (GL.nil (Yd h (fun hc85 h => ?_) fun hc85 h => ?_)))))))
 refine Zo (Za (GL.nil ?_))
 exact Y1 I3 ⟨(-1), rfl, h⟩
 refine GC.skip (Zo (Zm (Zm (Zi (.int .i64 (w .i64 ((w .i64 (x25 + 1)) + r83))) (Za (GL.nil ?_))))))
 exact Y1 I3 ⟨(w .i64 ((w .i64 (x25 + 1)) + r83)), rfl, h⟩
 exact Yk I3 ((w .i64 (x25 + 1)), (w .i64 (x20.2 + 1))) h
 refine GC.exit_to (fun _ _ h => h) (Zo (Za (GL.nil ?_)))
 exact Y1 I3 ⟨(-1), rfl, h⟩
def QeA (C : Ctx) (p_c : Int) (K : Bool → Heap → Prop) (H : Heap) : Prop :=
 K ((decide ((p_c : Int) ≥ 97)) && (decide ((p_c : Int) ≤ 122))) H
theorem Qhi (C p_c K H) (h : QeA C p_c K H) : QbQ C p_c K H := by
 refine Ye Tryz.func181 rfl Tryz.ntmps181 [(0, .int .u8 p_c)] (Zo (Za (GL.nil (Zo (Zm (Zi (.bool (decide ((p_c : Int) ≥ 97))) (Zm (GL.cut0 3 [(8, .bool ((decide ((p_c : Int) ≥ 97)) && (decide ((p_c : Int) ≤ 122))))] ?_ ?_))))))))
 rcases Zb (decide ((p_c : Int) ≥ 97)) with hc1 | hc1
 refine Zu hc1 Ym (Zu hc1 (OV.ibin (v := .bool (decide ((p_c : Int) ≤ 122))) rfl rfl rfl) (Zt hc1 ?_))
 exact GL.jump0 (fun _ _ h => h) () rfl ⟨(by rw [hc1]; rfl), trivial⟩
 refine Zk hc1 (Zk hc1 (Zn hc1 ?_))
 exact GL.jump0 (fun _ _ h => h) () rfl ⟨(by rw [hc1]; rfl), trivial⟩
 refine Za (GL.nil ?_)
 exact Y1 I3 ⟨((decide ((p_c : Int) ≥ 97)) && (decide ((p_c : Int) ≤ 122))), rfl, h⟩
def QaM (C : Ctx) (p_as : Option (Nat × Nat)) (p_c : Int) (K : Bool → Heap → Prop) (H : Heap) : Prop :=
 nck p_as fun p1 =>
 ixr p1 256 p_c <|
 ldB H (p1.1, p1.2 + (p_c : Int).toNat * 1) fun x5 =>
 K x5 H
theorem Qcm (C p_as p_c K H) (h : QaM C p_as p_c K H) : QH C p_as p_c K H := by
 refine Ye Tryz.func182 rfl Tryz.ntmps182 [(0, pv p_as), (1, .int .u8 p_c)] (Zo (Za (GL.nil (Zo (Zm (Zm ?_))))))
 obtain ⟨p1, hp2, h⟩ := h
 refine Zv (OV.nilCheck (q := p_as) rfl hp2) ?_
 obtain ⟨ha3, hb4, h⟩ := h
 refine Zv (OV.indexAddrA (p := p1) rfl rfl rfl rfl ha3 hb4) (Yl h fun x5 h => ?_)
 refine Za (GL.nil ?_)
 exact Y1 I3 ⟨x5, rfl, h⟩
def Qaf (C : Ctx) (p_s : Str) (p_c : Int) (K : Int → Heap → Prop) (H : Heap) : Prop :=
 K (idxB p_s p_c) H
theorem QbC (C p_s p_c K H) (h : Qaf C p_s p_c K H) : QL C p_s p_c K H := by
 refine Ye Tryz.func186 rfl Tryz.ntmps186 [(0, sv p_s), (1, .int .u8 p_c)] (Zo (Za (GL.nil (Zo (Zm (Zm (Zv (OV.ext Qbf (vs := [sv p_s, .int .u8 p_c]) (v := .int .i64 (idxB p_s p_c)) rfl (fun w => QmJ _ _ w)) (Za (GL.nil ?_)))))))))
 exact Y1 I3 ⟨(idxB p_s p_c), rfl, h⟩
end
end Sx
end
noncomputable section
set_option linter.unusedVariables false
namespace Go.Proofs
open Go.Shelf
def Tryz.lays173_ren : Go.Shelf.Ren := ⟨fun | 173 => 100 | 246 => 140 | 283 => 159 | 284 => 160 | 285 => 161 | 286 => 162 | 129 => 87 | 317 => 177 | 318 => 178 | 319 => 179 | 320 => 180 | 337 => 190 | 338 => 191 | n => n, fun | 2 => 2 | 3 => 3 | 9 => 9 | 4 => 4 | 171 => 187 | 0 => 0 | 53 => 124 | 37 => 134 | 5 => 5 | 173 => 189 | 212 => 203 | 51 => 122 | 20 => 20 | 213 => 204 | 46 => 100 | 232 => 212 | 233 => 213 | n => n, fun | 17 => 0 | 18 => 2 | 19 => 3 | n => n⟩
theorem Tryz.lays173 : Go.Proofs.LaysM.n173 Tryz.prog Tryz.lays173_ren := {
 mixed := by kernel_rfl
 f129 := Tryz.func87.trans (congrArg some (by kernel_rfl))
 f173 := Tryz.func100.trans (congrArg some (by kernel_rfl))
 f246 := Tryz.func140.trans (congrArg some (by kernel_rfl))
 f283 := Tryz.func159.trans (congrArg some (by kernel_rfl))
 f284 := Tryz.func160.trans (congrArg some (by kernel_rfl))
 f285 := Tryz.func161.trans (congrArg some (by kernel_rfl))
 f286 := Tryz.func162.trans (congrArg some (by kernel_rfl))
 f317 := Tryz.func177.trans (congrArg some (by kernel_rfl))
 f318 := Tryz.func178.trans (congrArg some (by kernel_rfl))
 f319 := Tryz.func179.trans (congrArg some (by kernel_rfl))
 f320 := Tryz.func180.trans (congrArg some (by kernel_rfl))
 f337 := Tryz.func190.trans (congrArg some (by kernel_rfl))
 f338 := Tryz.func191.trans (congrArg some (by kernel_rfl))
 t0 := Tryz.underlying0
 a0 := Tryz.isAgg0
 z0 := Tryz.sizeOf0
 v0 := Tryz.zeroValue0
 t2 := Tryz.underlying2
 a2 := Tryz.isAgg2
 z2 := Tryz.sizeOf2
 v2 := Tryz.zeroValue2
 t3 := Tryz.underlying3
 a3 := Tryz.isAgg3
 z3 := Tryz.sizeOf3
 v3 := Tryz.zeroValue3
 t4 := Tryz.underlying4
 a4 := Tryz.isAgg4
 z4 := Tryz.sizeOf4
 v4 := Tryz.zeroValue4
 t5 := Tryz.underlying5
 a5 := Tryz.isAgg5
 z5 := Tryz.sizeOf5
 v5 := Tryz.zeroValue5
 t9 := Tryz.underlying9
 a9 := Tryz.isAgg9
 z9 := Tryz.sizeOf9
 v9 := Tryz.zeroValue9
 t20 := Tryz.underlying20
 a20 := Tryz.isAgg20
 z20 := Tryz.sizeOf20
 v20 := Tryz.zeroValue20
 t37 := Tryz.underlying134
 a37 := Tryz.isAgg134
 z37 := Tryz.sizeOf134
 v37 := Tryz.zeroValue134
 t46 := Tryz.underlying100
 a46 := Tryz.isAgg100
 z46 := Tryz.sizeOf100
 v46 := Tryz.zeroValue100
 t51 := Tryz.underlying122
 a51 := Tryz.isAgg122
 z51 := Tryz.sizeOf122
 v51 := Tryz.zeroValue122
 t53 := Tryz.underlying124
 a53 := Tryz.isAgg124
 z53 := Tryz.sizeOf124
 v53 := Tryz.zeroValue124
 t171 := Tryz.underlying187
 a171 := Tryz.isAgg187
 z171 := Tryz.sizeOf187
 v171 := Tryz.zeroValue187
 t173 := Tryz.underlying189
 a173 := Tryz.isAgg189
 z173 := Tryz.sizeOf189
 v173 := Tryz.zeroValue189
 t212 := Tryz.underlying203
 a212 := Tryz.isAgg203
 z212 := Tryz.sizeOf203
 v212 := Tryz.zeroValue203
 t213 := Tryz.underlying204
 a213 := Tryz.isAgg204
 z213 := Tryz.sizeOf204
 t232 := Tryz.underlying212
 a232 := Tryz.isAgg212
 z232 := Tryz.sizeOf212
 v232 := Tryz.zeroValue212
 t233 := Tryz.underlying213
 a233 := Tryz.isAgg213
 z233 := Tryz.sizeOf213
 v233 := Tryz.zeroValue213
 g17 := by kernel_rfl
 g18 := by kernel_rfl
 g19 := by kernel_rfl
 i0 := by kernel_rfl
 i2 := by kernel_rfl
 i3 := by kernel_rfl
 i4 := by kernel_rfl
 i5 := by kernel_rfl
 i9 := by kernel_rfl
 i20 := by kernel_rfl
 i37 := by kernel_rfl
 i46 := by kernel_rfl
 i51 := by kernel_rfl
 i53 := by kernel_rfl
 i171 := by kernel_rfl
 i173 := by kernel_rfl
 i212 := by kernel_rfl
 i232 := by kernel_rfl
 i233 := by kernel_rfl
 m17 := by kernel_rfl
 m18 := by kernel_rfl
 m19 := by kernel_rfl }
end Go.Proofs
namespace Sx
open Go Go.Proofs Go.Stop Go.RowKit
/-- the table of powers, as it was laid -/
def PowT (C : Ctx) : Prop := ∃ t fr, C.old[(Tryz.lays173_ren.g 17)]? = some (.cells (Lib.pow10Tab.map fun z => Value.int .u64 z).toArray t fr)
/-- what writes numbers -/
structure FmtC (C : Ctx) : Prop where
 ok : ∀ {n : Int} {H : Heap} {K : Str → Heap → Prop}, -9223372036854775808 ≤ n → n ≤ 9223372036854775807 → K (Lib.itoa n) H → Qcy C n 10 K H
theorem St.more {C : Ctx} {w : World} {H : Heap} (h : St C w H) (o : Obj) : St C { w with heap := w.heap.push o } H := by
 by_cases hc : ∃ c t fr, o = .cells c t fr
 ·obtain ⟨c, t, fr, rfl⟩ := hc
  exact (h.push (o := .cells c t fr) (m := false) (g := .row c.toList) ⟨by simp, fun h => by cases h⟩).weaken (Heap.le_put h.fresh)
 ·exact (h.push (o := o) (m := false) (g := .obj o) ⟨rfl, fun c t fr e => hc ⟨c, t, fr, e⟩⟩).weaken (Heap.le_put h.fresh)
theorem St.growL {C : Ctx} {H : Heap} : ∀ (os : List Obj) {w : World}, St C w H → St C { w with heap := w.heap ++ os.toArray } H
 | [], w, h => by
  have e : w.heap ++ ([] : List Obj).toArray = w.heap := by simp
  rw [e]; exact h
 | o :: os, w, h => by
  have e : w.heap ++ (o :: os).toArray = w.heap.push o ++ os.toArray := by apply Array.ext'; simp
  have := St.growL os (h.more o)
  rw [e]; exact this
theorem St.drewN {C : Ctx} {H : Heap} {w : World} (h : St C w H) : ∀ k, St C (w.drewN k) H
 | 0 => h
 | k + 1 => (St.drewN h k).drew
theorem QnG {C : Ctx} (hT : PowT C) : FmtC C := ⟨fun {n H K} h0 h1 k => by
 intro w hw
 obtain ⟨t, fr, hg⟩ := hT
 have hlt := (Array.getElem?_eq_some_iff.1 hg).1
 refine (Any.strconv_FormatInt_10 Tryz.lays173 n h0 h1 w ?_).mono ?_
 ·unfold Lib.TabIs World.var?
  rw [Tryz.lays173.m17]
  simp only [Option.bind_some]
  rw [hw.old _ hlt, hg]
 ·rintro e w' ⟨rfl, k', os, rfl⟩
  have h2 := St.growL os.toList (hw.drewN k')
  rw [Array.toArray_toList] at h2
  exact ⟨_, H, rfl, h2, ⟨_, rfl, k⟩⟩⟩
theorem QkU {W : World} {name : String} (hg : Tryz.prog.globalNamed name = some (Tryz.lays173_ren.g 17)) : ∀ (i : Nat) {l : List (String × DataW Unit)} {ps : List MemPlace}, DataW.LaidVars Tryz.prog W l ps → l[i]? = some (name, Lib.tabData .u64 Lib.pow10Tab) → PowT (ctxOf W)
 | _, [], ps, _, hi => by simp at hi
 | 0, (n, d) :: r, ps, ⟨g, t, cs, fuel, p, q, h1, h2, h3, h4, h5, h6⟩, hi => by
  simp only [List.getElem?_cons_zero, Option.some.injEq, Prod.mk.injEq] at hi
  obtain ⟨rfl, rfl⟩ := hi
  obtain rfl := Option.some.inj (hg.symm.trans h1)
  have hT : (Tryz.prog.globals[(Tryz.lays173_ren.g 17)]?).map (·.type) = some 203 := by kernel_rfl
  obtain rfl := Option.some.inj (hT.symm.trans h2)
  have hc := Lib.cells_of_tab Tryz.underlying203 Tryz.underlying124 (by kernel_rfl) (by kernel_rfl) h4
  unfold World.var? at h3
  rw [h1] at h3
  simp only [Option.bind_some] at h3
  cases hb : W.heap[(Tryz.lays173_ren.g 17)]? with
  | none => rw [hb] at h3; cases h3
  | some o =>
   rw [hb] at h3
   cases o <;> simp only [reduceCtorEq, Option.some.injEq] at h3
   rename_i c ty fr
   subst h3
   refine ⟨ty, fr, ?_⟩
   show W.heap[(Tryz.lays173_ren.g 17)]? = _
   rw [hb, ← hc]
 | i + 1, (n, d) :: r, ps, ⟨g, t, cs, fuel, p, q, h1, h2, h3, h4, h5, h6⟩, hi => QkU hg i h5 (by simpa using hi)
theorem Qnx {W : World} {name : String} {l : List (String × DataW Unit)} (h : laidMet Tryz.prog l W) (i : Nat) (hi : l[i]? = some (name, Lib.tabData .u64 Lib.pow10Tab)) (hg : Tryz.prog.globalNamed name = some (Tryz.lays173_ren.g 17)) : PowT (ctxOf W) := by
 obtain ⟨ps, h1, _⟩ := h
 exact QkU hg i h1 hi
end Sx
end

noncomputable section
set_option linter.unusedVariables false
namespace Go.Proofs
open Go.Shelf
def Tryz.laysSrt_ren : Go.Shelf.Ren := ⟨fun | 6 => 55 | 15 => 62 | 14 => 73 | 28 => 86 | 29 => 87 | 20 => 104 | 21 => 105 | 22 => 106 | 23 => 107 | 24 => 108 | 25 => 109 | 26 => 110 | 27 => 111 | 46 => 141 | 47 => 127 | 48 => 128 | 49 => 142 | 50 => 143 | 57 => 163 | n => n, fun | 22 => 53 | 24 => 28 | 25 => 58 | 3 => 3 | 39 => 100 | 0 => 0 | 53 => 122 | 55 => 124 | 4 => 4 | 46 => 116 | 45 => 115 | 50 => 107 | 5 => 5 | 9 => 9 | 66 => 160 | 70 => 164 | 76 => 177 | 77 => 178 | n => n, fun | n => n⟩
theorem Tryz.laysSrt : Go.Proofs.SlLaysF.n6 Tryz.prog Tryz.laysSrt_ren := {
 mixed := by kernel_rfl
 f6 := ⟨Tryz.f55.name, by decide, Tryz.func55.trans (congrArg some (by kernel_rfl))⟩
 f14 := ⟨Tryz.f73.name, by decide, Tryz.func73.trans (congrArg some (by kernel_rfl))⟩
 f15 := Tryz.func62.trans (congrArg some (by kernel_rfl))
 f20 := ⟨Tryz.f104.name, by decide, Tryz.func104.trans (congrArg some (by kernel_rfl))⟩
 f21 := ⟨Tryz.f105.name, by decide, Tryz.func105.trans (congrArg some (by kernel_rfl))⟩
 f22 := ⟨Tryz.f106.name, by decide, Tryz.func106.trans (congrArg some (by kernel_rfl))⟩
 f23 := ⟨Tryz.f107.name, by decide, Tryz.func107.trans (congrArg some (by kernel_rfl))⟩
 f24 := ⟨Tryz.f108.name, by decide, Tryz.func108.trans (congrArg some (by kernel_rfl))⟩
 f25 := ⟨Tryz.f109.name, by decide, Tryz.func109.trans (congrArg some (by kernel_rfl))⟩
 f26 := ⟨Tryz.f110.name, by decide, Tryz.func110.trans (congrArg some (by kernel_rfl))⟩
 f27 := ⟨Tryz.f111.name, by decide, Tryz.func111.trans (congrArg some (by kernel_rfl))⟩
 f28 := Tryz.func86.trans (congrArg some (by kernel_rfl))
 f29 := Tryz.func87.trans (congrArg some (by kernel_rfl))
 f46 := ⟨Tryz.f141.name, by decide, Tryz.func141.trans (congrArg some (by kernel_rfl))⟩
 f47 := Tryz.func127.trans (congrArg some (by kernel_rfl))
 f48 := Tryz.func128.trans (congrArg some (by kernel_rfl))
 f49 := ⟨Tryz.f142.name, by decide, Tryz.func142.trans (congrArg some (by kernel_rfl))⟩
 f50 := ⟨Tryz.f143.name, by decide, Tryz.func143.trans (congrArg some (by kernel_rfl))⟩
 f57 := ⟨Tryz.f163.name, by decide, Tryz.func163.trans (congrArg some (by kernel_rfl))⟩
 t0 := Tryz.underlying0
 a0 := Tryz.isAgg0
 z0 := Tryz.sizeOf0
 v0 := Tryz.zeroValue0
 t3 := Tryz.underlying3
 a3 := Tryz.isAgg3
 z3 := Tryz.sizeOf3
 v3 := Tryz.zeroValue3
 t4 := Tryz.underlying4
 a4 := Tryz.isAgg4
 z4 := Tryz.sizeOf4
 v4 := Tryz.zeroValue4
 t5 := Tryz.underlying5
 a5 := Tryz.isAgg5
 z5 := Tryz.sizeOf5
 v5 := Tryz.zeroValue5
 t9 := Tryz.underlying9
 a9 := Tryz.isAgg9
 z9 := Tryz.sizeOf9
 v9 := Tryz.zeroValue9
 t22 := Tryz.underlying53
 a22 := Tryz.isAgg53
 z22 := Tryz.sizeOf53
 v22 := Tryz.zeroValue53
 a24 := Tryz.isAgg28
 z24 := Tryz.sizeOf28
 t25 := Tryz.underlying58
 a25 := Tryz.isAgg58
 z25 := Tryz.sizeOf58
 v25 := Tryz.zeroValue58
 t39 := Tryz.underlying100
 a39 := Tryz.isAgg100
 z39 := Tryz.sizeOf100
 v39 := Tryz.zeroValue100
 t45 := Tryz.underlying115
 a45 := Tryz.isAgg115
 z45 := Tryz.sizeOf115
 v45 := Tryz.zeroValue115
 t46 := Tryz.underlying116
 a46 := Tryz.isAgg116
 z46 := Tryz.sizeOf116
 v46 := Tryz.zeroValue116
 t50 := Tryz.underlying107
 a50 := Tryz.isAgg107
 z50 := Tryz.sizeOf107
 v50 := Tryz.zeroValue107
 t53 := Tryz.underlying122
 a53 := Tryz.isAgg122
 z53 := Tryz.sizeOf122
 v53 := Tryz.zeroValue122
 t55 := Tryz.underlying124
 a55 := Tryz.isAgg124
 z55 := Tryz.sizeOf124
 v55 := Tryz.zeroValue124
 t66 := Tryz.underlying160
 a66 := Tryz.isAgg160
 z66 := Tryz.sizeOf160
 v66 := Tryz.zeroValue160
 t70 := Tryz.underlying164
 a70 := Tryz.isAgg164
 z70 := Tryz.sizeOf164
 v70 := Tryz.zeroValue164
 t76 := Tryz.underlying177
 a76 := Tryz.isAgg177
 z76 := Tryz.sizeOf177
 v76 := Tryz.zeroValue177
 t77 := Tryz.underlying178
 a77 := Tryz.isAgg178
 z77 := Tryz.sizeOf178
 v77 := Tryz.zeroValue178 }
end Go.Proofs
end

noncomputable section
set_option linter.unusedVariables false
namespace Go.Proofs
open Go.Shelf
def Tryz.laysSrk_ren : Go.Shelf.Ren := ⟨fun | 6 => 33 | 15 => 62 | 14 => 61 | 28 => 86 | 29 => 87 | 20 => 78 | 21 => 79 | 22 => 80 | 23 => 81 | 24 => 82 | 25 => 83 | 26 => 84 | 27 => 85 | 46 => 126 | 47 => 127 | 48 => 128 | 49 => 129 | 50 => 130 | 57 => 150 | n => n, fun | 22 => 36 | 24 => 43 | 25 => 79 | 3 => 3 | 39 => 100 | 0 => 0 | 53 => 122 | 55 => 124 | 4 => 4 | 46 => 116 | 45 => 115 | 50 => 107 | 5 => 5 | 9 => 9 | 66 => 160 | 70 => 164 | 76 => 177 | 77 => 178 | n => n, fun | n => n⟩
theorem Tryz.laysSrk : Go.Proofs.SlLaysF0.n6 Tryz.prog Tryz.laysSrk_ren := {
 mixed := by kernel_rfl
 f6 := ⟨Tryz.f33.name, by decide, Tryz.func33.trans (congrArg some (by kernel_rfl))⟩
 f14 := ⟨Tryz.f61.name, by decide, Tryz.func61.trans (congrArg some (by kernel_rfl))⟩
 f15 := Tryz.func62.trans (congrArg some (by kernel_rfl))
 f20 := ⟨Tryz.f78.name, by decide, Tryz.func78.trans (congrArg some (by kernel_rfl))⟩
 f21 := ⟨Tryz.f79.name, by decide, Tryz.func79.trans (congrArg some (by kernel_rfl))⟩
 f22 := ⟨Tryz.f80.name, by decide, Tryz.func80.trans (congrArg some (by kernel_rfl))⟩
 f23 := ⟨Tryz.f81.name, by decide, Tryz.func81.trans (congrArg some (by kernel_rfl))⟩
 f24 := ⟨Tryz.f82.name, by decide, Tryz.func82.trans (congrArg some (by kernel_rfl))⟩
 f25 := ⟨Tryz.f83.name, by decide, Tryz.func83.trans (congrArg some (by kernel_rfl))⟩
 f26 := ⟨Tryz.f84.name, by decide, Tryz.func84.trans (congrArg some (by kernel_rfl))⟩
 f27 := ⟨Tryz.f85.name, by decide, Tryz.func85.trans (congrArg some (by kernel_rfl))⟩
 f28 := Tryz.func86.trans (congrArg some (by kernel_rfl))
 f29 := Tryz.func87.trans (congrArg some (by kernel_rfl))
 f46 := ⟨Tryz.f126.name, by decide, Tryz.func126.trans (congrArg some (by kernel_rfl))⟩
 f47 := Tryz.func127.trans (congrArg some (by kernel_rfl))
 f48 := Tryz.func128.trans (congrArg some (by kernel_rfl))
 f49 := ⟨Tryz.f129.name, by decide, Tryz.func129.trans (congrArg some (by kernel_rfl))⟩
 f50 := ⟨Tryz.f130.name, by decide, Tryz.func130.trans (congrArg some (by kernel_rfl))⟩
 f57 := ⟨Tryz.f150.name, by decide, Tryz.func150.trans (congrArg some (by kernel_rfl))⟩
 t0 := Tryz.underlying0
 a0 := Tryz.isAgg0
 z0 := Tryz.sizeOf0
 v0 := Tryz.zeroValue0
 t3 := Tryz.underlying3
 a3 := Tryz.isAgg3
 z3 := Tryz.sizeOf3
 v3 := Tryz.zeroValue3
 t4 := Tryz.underlying4
 a4 := Tryz.isAgg4
 z4 := Tryz.sizeOf4
 v4 := Tryz.zeroValue4
 t5 := Tryz.underlying5
 a5 := Tryz.isAgg5
 z5 := Tryz.sizeOf5
 v5 := Tryz.zeroValue5
 t9 := Tryz.underlying9
 a9 := Tryz.isAgg9
 z9 := Tryz.sizeOf9
 v9 := Tryz.zeroValue9
 t22 := Tryz.underlying36
 a22 := Tryz.isAgg36
 z22 := Tryz.sizeOf36
 v22 := Tryz.zeroValue36
 t25 := Tryz.underlying79
 a25 := Tryz.isAgg79
 z25 := Tryz.sizeOf79
 v25 := Tryz.zeroValue79
 t39 := Tryz.underlying100
 a39 := Tryz.isAgg100
 z39 := Tryz.sizeOf100
 v39 := Tryz.zeroValue100
 t45 := Tryz.underlying115
 a45 := Tryz.isAgg115
 z45 := Tryz.sizeOf115
 v45 := Tryz.zeroValue115
 t46 := Tryz.underlying116
 a46 := Tryz.isAgg116
 z46 := Tryz.sizeOf116
 v46 := Tryz.zeroValue116
 t50 := Tryz.underlying107
 a50 := Tryz.isAgg107
 z50 := Tryz.sizeOf107
 v50 := Tryz.zeroValue107
 t53 := Tryz.underlying122
 a53 := Tryz.isAgg122
 z53 := Tryz.sizeOf122
 v53 := Tryz.zeroValue122
 t55 := Tryz.underlying124
 a55 := Tryz.isAgg124
 z55 := Tryz.sizeOf124
 v55 := Tryz.zeroValue124
 t66 := Tryz.underlying160
 a66 := Tryz.isAgg160
 z66 := Tryz.sizeOf160
 v66 := Tryz.zeroValue160
 t70 := Tryz.underlying164
 a70 := Tryz.isAgg164
 z70 := Tryz.sizeOf164
 v70 := Tryz.zeroValue164
 t76 := Tryz.underlying177
 a76 := Tryz.isAgg177
 z76 := Tryz.sizeOf177
 v76 := Tryz.zeroValue177
 t77 := Tryz.underlying178
 a77 := Tryz.isAgg178
 z77 := Tryz.sizeOf178
 v77 := Tryz.zeroValue178 }
end Go.Proofs
end

noncomputable section
set_option linter.unusedVariables false
namespace Go.Proofs
open Go.Shelf
def Tryz.lays190_ren : Go.Shelf.Ren := ⟨fun | 190 => 56 | 125 => 62 | 258 => 74 | 128 => 86 | 129 => 87 | 302 => 112 | 303 => 113 | 304 => 114 | 305 => 115 | 306 => 116 | 307 => 117 | 308 => 118 | 309 => 119 | 310 => 120 | 333 => 144 | 329 => 127 | 330 => 128 | 334 => 145 | 335 => 146 | 336 => 63 | 344 => 164 | n => n, fun | 31 => 50 | 9 => 9 | 3 => 3 | 46 => 100 | 0 => 0 | 51 => 122 | 53 => 124 | 4 => 4 | 183 => 116 | 182 => 115 | 131 => 107 | 5 => 5 | 218 => 160 | 222 => 164 | 228 => 177 | 229 => 178 | n => n, fun | n => n⟩
theorem Tryz.lays190 : Go.Proofs.Lays.n190 Tryz.prog Tryz.lays190_ren := {
 mixed := by kernel_rfl
 f125 := Tryz.func62.trans (congrArg some (by kernel_rfl))
 f128 := Tryz.func86.trans (congrArg some (by kernel_rfl))
 f129 := Tryz.func87.trans (congrArg some (by kernel_rfl))
 f190 := Tryz.func56.trans (congrArg some (by kernel_rfl))
 f258 := Tryz.func74.trans (congrArg some (by kernel_rfl))
 f302 := Tryz.func112.trans (congrArg some (by kernel_rfl))
 f303 := Tryz.func113.trans (congrArg some (by kernel_rfl))
 f304 := Tryz.func114.trans (congrArg some (by kernel_rfl))
 f305 := Tryz.func115.trans (congrArg some (by kernel_rfl))
 f306 := Tryz.func116.trans (congrArg some (by kernel_rfl))
 f307 := Tryz.func117.trans (congrArg some (by kernel_rfl))
 f308 := Tryz.func118.trans (congrArg some (by kernel_rfl))
 f309 := Tryz.func119.trans (congrArg some (by kernel_rfl))
 f310 := Tryz.func120.trans (congrArg some (by kernel_rfl))
 f329 := Tryz.func127.trans (congrArg some (by kernel_rfl))
 f330 := Tryz.func128.trans (congrArg some (by kernel_rfl))
 f333 := Tryz.func144.trans (congrArg some (by kernel_rfl))
 f334 := Tryz.func145.trans (congrArg some (by kernel_rfl))
 f335 := Tryz.func146.trans (congrArg some (by kernel_rfl))
 f336 := Tryz.func63.trans (congrArg some (by kernel_rfl))
 f344 := Tryz.func164.trans (congrArg some (by kernel_rfl))
 t0 := Tryz.underlying0
 a0 := Tryz.isAgg0
 z0 := Tryz.sizeOf0
 v0 := Tryz.zeroValue0
 t3 := Tryz.underlying3
 a3 := Tryz.isAgg3
 z3 := Tryz.sizeOf3
 v3 := Tryz.zeroValue3
 t4 := Tryz.underlying4
 a4 := Tryz.isAgg4
 z4 := Tryz.sizeOf4
 v4 := Tryz.zeroValue4
 t5 := Tryz.underlying5
 a5 := Tryz.isAgg5
 z5 := Tryz.sizeOf5
 v5 := Tryz.zeroValue5
 t9 := Tryz.underlying9
 a9 := Tryz.isAgg9
 z9 := Tryz.sizeOf9
 v9 := Tryz.zeroValue9
 t31 := Tryz.underlying50
 a31 := Tryz.isAgg50
 z31 := Tryz.sizeOf50
 v31 := Tryz.zeroValue50
 t46 := Tryz.underlying100
 a46 := Tryz.isAgg100
 z46 := Tryz.sizeOf100
 v46 := Tryz.zeroValue100
 t51 := Tryz.underlying122
 a51 := Tryz.isAgg122
 z51 := Tryz.sizeOf122
 v51 := Tryz.zeroValue122
 t53 := Tryz.underlying124
 a53 := Tryz.isAgg124
 z53 := Tryz.sizeOf124
 v53 := Tryz.zeroValue124
 t131 := Tryz.underlying107
 a131 := Tryz.isAgg107
 z131 := Tryz.sizeOf107
 v131 := Tryz.zeroValue107
 t182 := Tryz.underlying115
 a182 := Tryz.isAgg115
 z182 := Tryz.sizeOf115
 v182 := Tryz.zeroValue115
 t183 := Tryz.underlying116
 a183 := Tryz.isAgg116
 z183 := Tryz.sizeOf116
 v183 := Tryz.zeroValue116
 t218 := Tryz.underlying160
 a218 := Tryz.isAgg160
 z218 := Tryz.sizeOf160
 v218 := Tryz.zeroValue160
 t222 := Tryz.underlying164
 a222 := Tryz.isAgg164
 z222 := Tryz.sizeOf164
 v222 := Tryz.zeroValue164
 t228 := Tryz.underlying177
 a228 := Tryz.isAgg177
 z228 := Tryz.sizeOf177
 v228 := Tryz.zeroValue177
 t229 := Tryz.underlying178
 a229 := Tryz.isAgg178
 z229 := Tryz.sizeOf178
 v229 := Tryz.zeroValue178 }
end Go.Proofs
end

noncomputable section
set_option linter.unusedVariables false
set_option linter.unusedSimpArgs false
namespace Sx
open Go
inductive V where
 | mk (k n : Int) (s : Str) (l : List V)
namespace V
def k : V → Int | .mk k _ _ _ => k
def n : V → Int | .mk _ n _ _ => n
def s : V → Str | .mk _ _ s _ => s
def l : V → List V | .mk _ _ _ l => l
end V
mutual
def vsize : V → Nat
 | .mk _ _ _ l => vsizes l + 1
def vsizes : List V → Nat
 | [] => 0
 | v :: l => vsize v + vsizes l
end
theorem Qb6 : ∀ {l : List V} {v : V}, v ∈ l → vsize v ≤ vsizes l
 | w :: l, v, h => by
  simp only [vsizes]
  rcases List.mem_cons.1 h with rfl | h
  ·omega
  ·have := Qb6 h; omega
theorem Qjr {v w : V} (h : w ∈ v.l) : vsize w < vsize v := by
 obtain ⟨k, n, s, l⟩ := v
 have := Qb6 (show w ∈ l from h)
 simp only [vsize]; omega
/-- by how great a value is -/
theorem V.rec_ {P : V → Prop} (h : ∀ v, (∀ w ∈ v.l, P w) → P v) (v : V) : P v := by
 have : ∀ n v, vsize v ≤ n → P v := by
  intro n
  induction n with
  | zero => intro v hv; obtain ⟨k, n, s, l⟩ := v; simp [vsize] at hv
  | succ n ih => intro v hv; exact h v fun w hw => ih w (by have := Qjr hw; omega)
 exact this _ v (Nat.le_refl _)
mutual
def dep : V → Nat
 | .mk _ _ _ l => deps l + 1
def deps : List V → Nat
 | [] => 0
 | v :: l => max (dep v) (deps l)
end
theorem Qm4 (v : V) : dep v = deps v.l + 1 := by obtain ⟨k, n, s, l⟩ := v; rfl
theorem Qfq : ∀ (a b : List V), deps (a ++ b) = max (deps a) (deps b)
 | [], b => by simp [deps]
 | v :: a, b => by simp only [List.cons_append, deps, Qfq a b]; omega
theorem QjH {l : List V} {i : Nat} (h : i < l.length) : deps (l.take (i + 1)) = max (deps (l.take i)) (dep l[i]) := by
 rw [List.take_add_one, List.getElem?_eq_getElem h, Option.toList_some, Qfq]; simp [deps]
theorem Qkm : ∀ {l : List V} {v : V}, v ∈ l → dep v ≤ deps l
 | w :: l, v, h => by
  simp only [deps]
  rcases List.mem_cons.1 h with rfl | h
  ·omega
  ·have := Qkm h; omega
theorem Qkl (v : V) : dep v ≤ vsize v := by
 have h : ∀ (l : List V), (∀ w ∈ l, dep w ≤ vsize w) → deps l ≤ vsizes l := by
  intro l
  induction l with
  | nil => intro _; simp [deps]
  | cons v l ih =>
   intro h
   have h1 := h v (List.mem_cons_self ..)
   have h2 := ih fun w hw => h w (List.mem_cons_of_mem _ hw)
   simp only [deps, vsizes]; omega
 refine V.rec_ (P := fun v => dep v ≤ vsize v) (fun v ih => ?_) v
 obtain ⟨k, n, s, l⟩ := v
 have := h l ih
 simp only [dep, vsize]; omega
def lowC (c : UInt8) : Bool := decide (97 ≤ c.toNat) && decide (c.toNat ≤ 122)
def nameC (c : UInt8) : Bool := lowC c || (decide (65 ≤ c.toNat) && decide (c.toNat ≤ 90)) || (decide (48 ≤ c.toNat) && decide (c.toNat ≤ 57)) || decide (c.toNat = 95)
def nameS (s : Str) : Bool := !s.isEmpty && decide (s.length ≤ 32) && lowC (s.headD 0) && s.all nameC
def digC (c : UInt8) : Bool := decide (48 ≤ c.toNat) && decide (c.toNat ≤ 57)
def cutD : Str → Option (Str × Str)
 | [] => none
 | c :: t => if c = 46 then some ([], t) else (cutD t).map fun p => (c :: p.1, p.2)
theorem Qhz : ∀ (a b : Str), (46 : UInt8) ∉ a → cutD (a ++ 46 :: b) = some (a, b)
 | [], b, _ => by simp [cutD]
 | c :: a, b, h => by
  have h1 : c ≠ 46 := fun e => h (by rw [e]; exact List.mem_cons_self ..)
  simp only [List.cons_append, cutD, if_neg h1, Qhz a b fun hh => h (List.mem_cons_of_mem _ hh)]; rfl
theorem QhA : ∀ (a : Str), (46 : UInt8) ∉ a → cutD a = none
 | [], _ => rfl
 | c :: a, h => by
  have h1 : c ≠ 46 := fun e => h (by rw [e]; exact List.mem_cons_self ..)
  simp only [cutD, if_neg h1, QhA a fun hh => h (List.mem_cons_of_mem _ hh)]; rfl
theorem Qi2 : ∀ (s : Str), (46 : UInt8) ∈ s → ∃ a b, s = a ++ 46 :: b ∧ 46 ∉ a
 | c :: s, h => by
  by_cases hc : c = 46
  ·exact ⟨[], s, by rw [hc]; rfl, by simp⟩
  ·obtain ⟨a, b, h1, h2⟩ := Qi2 s (by simpa [Ne.symm hc] using h)
   exact ⟨c :: a, b, by rw [h1]; rfl, by simp [h2, Ne.symm hc]⟩
def trueS : Str := [116, 114, 117, 101]
def falseS : Str := [102, 97, 108, 115, 101]
def namesS (s : Str) : Bool := if s = trueS ∨ s = falseS then false else match cutD s with
 | some (a, b) => nameS a && nameS b
 | none => nameS s
def unmin (s : Str) : Str := if s.head? = some 45 then s.tail else s
def numS (s : Str) : Bool := !(unmin s).isEmpty && (unmin s).all digC && !(decide ((unmin s).head? = some 48) && decide (s ≠ [48]))
def digits (s : Str) : Nat := (unmin s).length
def okN (k n : Int) (s : Str) (m : Nat) : Bool :=
 if k = 1 then (n == 0 || n == 1) && s.isEmpty && decide (m = 0)
 else if k = 2 then s.isEmpty && decide (m = 0)
 else if k = 3 then numS s && n == 0 && decide (m = 0)
 else if k = 4 then n == 0 && decide (m = 0)
 else if k = 5 then n == 0 && s.isEmpty && decide (m ≠ 1)
 else if k = 6 then n == 0 && namesS s
 else false
def fitN (k : Int) (s : Str) (m : Nat) : Bool :=
 if k = 3 then decide (digits s ≤ 200)
 else if k = 4 then decide (s.length ≤ 4096)
 else if k = 5 then decide (m ≤ 16)
 else if k = 6 then decide (m ≤ 8)
 else true
mutual
def formV : V → Bool
 | .mk k n s l => okN k n s l.length && formVs l
def formVs : List V → Bool
 | [] => true
 | v :: l => formV v && formVs l
end
mutual
def fitsV : V → Bool
 | .mk k n s l => fitN k s l.length && fitsVs l
def fitsVs : List V → Bool
 | [] => true
 | v :: l => fitsV v && fitsVs l
end
theorem Qcp (v : V) : formV v = (okN v.k v.n v.s v.l.length && formVs v.l) := by obtain ⟨k, n, s, l⟩ := v; rfl
theorem QfP (v : V) : fitsV v = (fitN v.k v.s v.l.length && fitsVs v.l) := by obtain ⟨k, n, s, l⟩ := v; rfl
theorem QfR : ∀ (a b : List V), formVs (a ++ b) = (formVs a && formVs b)
 | [], b => by simp [formVs]
 | v :: a, b => by simp only [List.cons_append, formVs, QfR a b, Bool.and_assoc]
theorem QdL : ∀ (a b : List V), fitsVs (a ++ b) = (fitsVs a && fitsVs b)
 | [], b => by simp [fitsVs]
 | v :: a, b => by simp only [List.cons_append, fitsVs, QdL a b, Bool.and_assoc]
theorem QhE {l : List V} {i : Nat} (h : i < l.length) : formVs (l.take (i + 1)) = (formVs (l.take i) && formV l[i]) := by
 rw [List.take_add_one, List.getElem?_eq_getElem h, Option.toList_some, QfR]; simp [formVs]
theorem Qfr {l : List V} {i : Nat} (h : i < l.length) : fitsVs (l.take (i + 1)) = (fitsVs (l.take i) && fitsV l[i]) := by
 rw [List.take_add_one, List.getElem?_eq_getElem h, Option.toList_some, QdL]; simp [fitsVs]
theorem Qem : ∀ {l : List V} {v : V}, v ∈ l → formV v = false → formVs l = false
 | w :: l, v, h, hv => by
  simp only [formVs]
  rcases List.mem_cons.1 h with rfl | h
  ·rw [hv]; rfl
  ·rw [Qem h hv, Bool.and_false]
theorem Qcs : ∀ {l : List V} {v : V}, v ∈ l → formVs l = true → formV v = true := fun h hl => by
 cases hv : formV _ with
 | true => rfl
 | false => rw [Qem h hv] at hl; cases hl
def checkV (v : V) : Int := if dep v > 64 then 65 else if formV v = false then 4 else if fitsV v = false then 40 else 0
def mayV (v : V) : Bool := decide (checkV v = 0)
theorem QkO (v : V) : mayV v = true ↔ dep v ≤ 64 ∧ formV v = true ∧ fitsV v = true := by
 unfold mayV checkV
 rw [decide_eq_true_eq]
 by_cases h1 : dep v > 64
 ·simp [h1]; omega
 ·rw [if_neg h1]
  cases hf : formV v <;> cases hg : fitsV v <;> simp <;> omega
def sgn (a b : Int) : Int := if a < b then -1 else if b < a then 1 else 0
def vcmpS : Str → Str → Int
 | [], [] => 0
 | [], _ :: _ => -1
 | _ :: _, [] => 1
 | a :: s, b :: t => if a = b then vcmpS s t else sgn a.toNat b.toNat
/-- of whole numbers without their signs -/
def cmpD (a b : Str) : Int := if a.length = b.length then vcmpS a b else sgn a.length b.length
def isMin (s : Str) : Bool := decide (s.head? = some 45)
def cmpB (a b : Str) : Int := if isMin a then (if isMin b then cmpD b.tail a.tail else -1) else if isMin b then 1 else cmpD a b
mutual
def cmpV : V → V → Int
 | .mk k n s l, .mk k' n' s' l' =>
  if k ≠ k' then sgn k k'
  else if k = 3 then cmpB s s'
  else if k = 4 then vcmpS s s'
  else if k = 5 then cmpVs l l'
  else if k = 6 then (if vcmpS s s' ≠ 0 then vcmpS s s' else cmpVs l l')
  else sgn n n'
def cmpVs : List V → List V → Int
 | [], [] => 0
 | [], _ :: _ => -1
 | _ :: _, [] => 1
 | v :: l, w :: m => if cmpV v w ≠ 0 then cmpV v w else cmpVs l m
end
def lastB (a b : Bool) : Int := if a = b then 0 else if a then -1 else 1
def mayR (l : List V) : Bool := l.all mayV
def cmpR (l m : List V) : Int := if mayR l = true ∧ mayR m = true then cmpVs l m else lastB (mayR l) (mayR m)
mutual
def sameV : V → V → Bool
 | .mk k n s l, .mk k' n' s' l' => k == k' && n == n' && decide (s = s') && sameVs l l'
def sameVs : List V → List V → Bool
 | [], [] => true
 | v :: l, w :: m => sameV v w && sameVs l m
 | _, _ => false
end
theorem QjY (h : ∀ v w : V, sameV v w = true → v = w) : ∀ {l m : List V}, sameVs l m = true → l = m
 | [], [], _ => rfl
 | [], _ :: _, h' => by simp [sameVs] at h'
 | _ :: _, [], h' => by simp [sameVs] at h'
 | v :: l, w :: m, h' => by
  simp only [sameVs, Bool.and_eq_true] at h'
  rw [h v w h'.1, QjY h h'.2]
theorem QmN {v w : V} (h : sameV v w = true) : v = w := by
 have key : ∀ v : V, ∀ w, sameV v w = true → v = w := by
  refine V.rec_ (P := fun v => ∀ w, sameV v w = true → v = w) fun v ih w h => ?_
  obtain ⟨k, n, s, l⟩ := v
  obtain ⟨k', n', s', l'⟩ := w
  simp only [sameV, Bool.and_eq_true, beq_iff_eq, decide_eq_true_eq] at h
  obtain ⟨⟨⟨rfl, rfl⟩, rfl⟩, h⟩ := h
  have : ∀ (l m : List V), (∀ v ∈ l, ∀ w, sameV v w = true → v = w) → sameVs l m = true → l = m := by
   intro l
   induction l with
   | nil => intro m _ h; cases m with
    | nil => rfl
    | cons _ _ => simp [sameVs] at h
   | cons v l ihl =>
    intro m hh h
    cases m with
    | nil => simp [sameVs] at h
    | cons w m =>
     simp only [sameVs, Bool.and_eq_true] at h
     rw [hh v (List.mem_cons_self ..) w h.1, ihl m (fun v hv => hh v (List.mem_cons_of_mem _ hv)) h.2]
  rw [this l l' ih h]
 exact key v w h
mutual
theorem Qlh : ∀ v : V, sameV v v = true
 | .mk k n s l => by simp [sameV, Qfx l]
theorem Qfx : ∀ l : List V, sameVs l l = true
 | [] => rfl
 | v :: l => by simp [sameVs, Qlh v, Qfx l]
end
theorem QgC {l m : List V} : sameVs l m = true ↔ l = m := ⟨QjY fun _ _ => QmN, fun h => h ▸ Qfx l⟩
end Sx
end

noncomputable section
set_option linter.unusedVariables false
set_option linter.unusedSimpArgs false
set_option maxRecDepth 10000
namespace Sx
section
open Go Go.Proofs
theorem QdM {α β : Type} (f : α → List β) (z : Nat) (hz : ∀ x, (f x).length = z) : ∀ (l : List α) (i : Nat) (x : α), l[i]? = some x → ∀ (j : Nat) (v : β), (f x)[j]? = some v → (l.flatMap f)[i * z + j]? = some v
 | [], i, x, h, j, v, hv => by simp at h
 | y :: l, 0, x, h, j, v, hv => by
  simp at h; subst h
  rw [List.flatMap_cons, Nat.zero_mul, Nat.zero_add, List.getElem?_append_left (List.getElem?_eq_some_iff.1 hv).1]; exact hv
 | y :: l, i + 1, x, h, j, v, hv => by
  have := QdM f z hz l i x (by simpa using h) j v hv
  rw [List.flatMap_cons, List.getElem?_append_right (by rw [hz, Nat.add_mul]; omega), hz]
  rw [show (i + 1) * z + j - z = i * z + j by rw [Nat.add_mul]; omega]; exact this
abbrev TV := Qa
theorem TV.c_len (x : TV) : (Qa.c x).length = 4 := rfl
mutual
def VIs (H : Heap) : V → TV → Prop
 | .mk k n s l, x => x.Kind = k ∧ x.N = n ∧ x.S = s ∧ ∃ xs : List TV, rdsl H x.L (xs.flatMap Qa.c) ∧ x.L.len = xs.length ∧ VsAre H l xs
def VsAre (H : Heap) : List V → List TV → Prop
 | [], [] => True
 | v :: l, x :: xs => VIs H v x ∧ VsAre H l xs
 | [], _ :: _ => False
 | _ :: _, [] => False
end
/-- a row of values -/
def VRow (H : Heap) (t : Sl) (l : List V) : Prop := ∃ xs : List TV, rdsl H t (xs.flatMap Qa.c) ∧ t.len = xs.length ∧ VsAre H l xs
theorem Qct {H : Heap} {v : V} {x : TV} : VIs H v x ↔ x.Kind = v.k ∧ x.N = v.n ∧ x.S = v.s ∧ VRow H x.L v.l := by obtain ⟨k, n, s, l⟩ := v; rfl
theorem VsAre.len {H : Heap} : ∀ {l : List V} {xs : List TV}, VsAre H l xs → l.length = xs.length
 | [], [], _ => rfl
 | v :: l, x :: xs, h => by have := VsAre.len h.2; simp [this]
theorem VsAre.get {H : Heap} : ∀ {l : List V} {xs : List TV}, VsAre H l xs → ∀ (i : Nat) (v : V) (x : TV), l[i]? = some v → xs[i]? = some x → VIs H v x
 | [], [], _, i, v, x, h, _ => by simp at h
 | v :: l, x :: xs, h, 0, v', x', h1, h2 => by simp at h1 h2; subst h1; subst h2; exact h.1
 | v :: l, x :: xs, h, i + 1, v', x', h1, h2 => VsAre.get h.2 i v' x' (by simpa using h1) (by simpa using h2)
theorem VsAre.of {H : Heap} : ∀ {l : List V} {xs : List TV}, l.length = xs.length → (∀ (i : Nat) (v : V) (x : TV), l[i]? = some v → xs[i]? = some x → VIs H v x) → VsAre H l xs
 | [], [], _, _ => trivial
 | v :: l, x :: xs, h, hg => ⟨hg 0 v x rfl rfl, VsAre.of (by simpa using h) fun i v' x' h1 h2 => hg (i + 1) v' x' (by simpa using h1) (by simpa using h2)⟩
mutual
theorem VIs.le {A B : Heap} (h : A.le B) : ∀ {v : V} {x : TV}, VIs A v x → VIs B v x
 | .mk k n s l, x, ⟨h1, h2, h3, xs, h4, h5, h6⟩ => ⟨h1, h2, h3, xs, QbK h h4, h5, VsAre.le h h6⟩
theorem VsAre.le {A B : Heap} (h : A.le B) : ∀ {l : List V} {xs : List TV}, VsAre A l xs → VsAre B l xs
 | [], [], _ => trivial
 | v :: l, x :: xs, ⟨h1, h2⟩ => ⟨VIs.le h h1, VsAre.le h h2⟩
end
theorem VRow.le {A B : Heap} {t : Sl} {l : List V} (h : VRow A t l) (hle : A.le B) : VRow B t l := by
 obtain ⟨xs, h1, h2, h3⟩ := h
 exact ⟨xs, QbK hle h1, h2, h3.le hle⟩
theorem VRow.len {H : Heap} {t : Sl} {l : List V} (h : VRow H t l) : t.len = l.length := by
 obtain ⟨xs, h1, h2, h3⟩ := h
 rw [h2, h3.len]
theorem VIs.kind {H : Heap} {v : V} {x : TV} (h : VIs H v x) : x.Kind = v.k := (Qct.1 h).1
theorem VIs.num {H : Heap} {v : V} {x : TV} (h : VIs H v x) : x.N = v.n := (Qct.1 h).2.1
theorem VIs.txt {H : Heap} {v : V} {x : TV} (h : VIs H v x) : x.S = v.s := (Qct.1 h).2.2.1
theorem VIs.row {H : Heap} {v : V} {x : TV} (h : VIs H v x) : VRow H x.L v.l := (Qct.1 h).2.2.2
/-- one of a row's values -/
theorem VRow.ld {A H : Heap} {t : Sl} {l : List V} (h : VRow A t l) (hle : A.le H) {i : Nat} {x : Int} {K : TV → Prop} (hx : x = i) (hi : i < l.length) (k : ∀ y, VIs A l[i] y → K y) : ixa t x fun p => ldT H Qa.c (p.1, p.2 + x.toNat * 4) K := by
 have hl := h.len
 obtain ⟨xs, h1, h2, h3⟩ := h
 have hi2 : i < xs.length := by omega
 have hg := List.getElem?_eq_getElem hi2
 subst hx
 refine QgI (QbK hle h1) (by omega) (by omega) (fun e => ?_) fun p _ hp => ⟨xs[i], ?_, k _ (h3.get i _ _ (List.getElem?_eq_getElem hi) hg)⟩
 ·have := QdM Qa.c 4 TV.c_len xs i _ hg 0 _ rfl
  rw [e] at this; simp at this
 ·refine Qev fun j v hj => ?_
  have := Qce hp _ _ (QdM Qa.c 4 TV.c_len xs i _ hg j v hj)
  rw [show p.2 + (i : Int).toNat * 4 + j = p.2 + (i * 4 + j) by omega]; exact this
mutual
def VB : V → Prop
 | .mk k n s l => (0 ≤ k ∧ k ≤ 255) ∧ (-9223372036854775808 ≤ n ∧ n ≤ 9223372036854775807) ∧ s.length ≤ 140737488355328 ∧ l.length ≤ 140737488355328 ∧ VBs l
def VBs : List V → Prop
 | [] => True
 | v :: l => VB v ∧ VBs l
end
theorem VBs.mem : ∀ {l : List V}, VBs l → ∀ {v}, v ∈ l → VB v
 | w :: l, h, v, hv => by
  rcases List.mem_cons.1 hv with rfl | hv
  ·exact h.1
  ·exact VBs.mem h.2 hv
theorem VB.k {v : V} (h : VB v) : 0 ≤ v.k ∧ v.k ≤ 255 := by obtain ⟨k, n, s, l⟩ := v; exact h.1
theorem VB.n {v : V} (h : VB v) : -9223372036854775808 ≤ v.n ∧ v.n ≤ 9223372036854775807 := by obtain ⟨k, n, s, l⟩ := v; exact h.2.1
theorem VB.s {v : V} (h : VB v) : v.s.length ≤ 140737488355328 := by obtain ⟨k, n, s, l⟩ := v; exact h.2.2.1
theorem VB.l {v : V} (h : VB v) : v.l.length ≤ 140737488355328 := by obtain ⟨k, n, s, l⟩ := v; exact h.2.2.2.1
theorem VB.ls {v : V} (h : VB v) : VBs v.l := by obtain ⟨k, n, s, l⟩ := v; exact h.2.2.2.2
theorem VB.at {v : V} (h : VB v) {i : Nat} (hi : i < v.l.length) : VB v.l[i] := h.ls.mem (List.getElem_mem hi)
section
variable {B : Heap} {b : Nat} {m : Bool} {x : TV}
theorem QkV (h : B b = some (m, .row (Qa.c x))) : rd B (b, 0) = some (.int .u8 x.Kind) ∧ rd B (b, 1) = some (.int .i64 x.N) ∧ rd B (b, 2) = some (sv x.S) ∧ rd B (b, 3) = some (slv x.L) :=
 ⟨by rw [Qo h]; rfl, by rw [Qo h]; rfl, by rw [Qo h]; rfl, by rw [Qo h]; rfl⟩
theorem bxK {K : Int → Prop} (h : B b = some (m, .row (Qa.c x))) (k : K x.Kind) : ldI B .u8 ((b, 0).1, (b, 0).2 + 0) K := ⟨_, (QkV h).1, k⟩
theorem bxN {K : Int → Prop} (h : B b = some (m, .row (Qa.c x))) (k : K x.N) : ldI B .i64 ((b, 0).1, (b, 0).2 + 1) K := ⟨_, (QkV h).2.1, k⟩
theorem bxS {K : Str → Prop} (h : B b = some (m, .row (Qa.c x))) (k : K x.S) : ldS B ((b, 0).1, (b, 0).2 + 2) K := ⟨_, (QkV h).2.2.1, k⟩
theorem bxL {K : Sl → Prop} (h : B b = some (m, .row (Qa.c x))) (k : K x.L) : ldL B ((b, 0).1, (b, 0).2 + 3) K := ⟨_, (QkV h).2.2.2, k⟩
theorem bxV {K : TV → Prop} (h : B b = some (m, .row (Qa.c x))) (k : K x) : ldT B Qa.c (b, 0) K := ⟨x, QbP h fun j v hj => by simpa using hj, k⟩
end
section
variable {C : Ctx} {H : Heap}
theorem Qiu {v : V} {x : TV} {H : Heap} {K : Int → Heap → Prop} (hv : VIs H v x) (hB : VB v) (hs : vsize v ≤ 4611686018427387904) (k : K (dep v) H) : QY C x K H := by
 refine V.rec_ (P := fun v => ∀ {x H} {K : Int → Heap → Prop}, VIs H v x → VB v → vsize v ≤ 4611686018427387904 → K (dep v) H → QY C x K H) (fun v ih => ?_) v hv hB hs k
 clear hv hB hs k
 intro x H K hv hB hs k
 apply QY.gh
 apply Qid
 unfold Qfd
 intro b1 n1
 have hr := hv.row
 have hl := hr.len
 have hbl := hB.l
 have hds := Qkl v
 have hde := Qm4 v
 refine ⟨fun y H' => ∃ i : Nat, y = ((deps (v.l.take i) : Int), (i : Int)) ∧ i ≤ v.l.length ∧ (H.put b1 (.row (Qa.c x))).le H', fun y _ => v.l.length - y.2.toNat, ⟨0, by simp [deps], Nat.zero_le _, Heap.le.refl _⟩, ?_⟩
 rintro _ H' ⟨i, rfl, hi, hle⟩
 have hb := hle _ _ (Heap.put_same ..)
 have hle0 := (Heap.le_put n1).trans hle
 refine bxL hb ?_
 rw [hl]
 refine ift.of (fun h => ?_) (fun h => ?_)
 ·have hlt : i < v.l.length := by have := of_decide_eq_true h; dsimp only at this; omega
  have hmem := List.getElem_mem hlt
  have hsz := Qjr hmem
  have hdl := Qkm hmem
  refine bxL hb ?_
  refine hr.ld hle0 rfl hlt fun y hy => ?_
  refine ih _ hmem (hy.le hle0) (hB.at hlt) (by omega) ?_
  have hdt := QjH hlt
  dsimp only
  rw [Qz (by omega) (by omega)]
  refine ⟨⟨i + 1, ?_, by omega, hle⟩, by first | omega | (dsimp only; omega)⟩
  rw [hdt]
  refine Prod.ext ?_ rfl
  dsimp only
  split <;> omega
 ·have hie : i = v.l.length := by have := of_decide_eq_false h; dsimp only at this; omega
  subst hie
  dsimp only
  rw [List.take_length, Qz (by omega) (by omega)]
  refine ⟨H, Gh.le hle0, ?_⟩
  rw [hde] at k; exact k
theorem Qiw {v : V} {x : TV} {H : Heap} {m : Nat} {K : Int → Heap → Prop} (hv : VIs H v x) (hB : VB v) (hm : m ≤ 1000) (k : ∀ r : Nat, r ≤ m + 1 → r ≤ dep v → (r = dep v ∨ m + 1 ≤ r) → K r H) : Q0 C x m K H := by
 refine V.rec_ (P := fun v => ∀ {x H} {m : Nat} {K : Int → Heap → Prop}, VIs H v x → VB v → m ≤ 1000 → (∀ r : Nat, r ≤ m + 1 → r ≤ dep v → (r = dep v ∨ m + 1 ≤ r) → K r H) → Q0 C x m K H) (fun v ih => ?_) v hv hB hm k
 clear hv hB hm k m
 intro x H m K hv hB hm k
 apply Q0.gh
 apply Qij
 unfold Qfj
 intro b1 n1
 have hr := hv.row
 have hl := hr.len
 have hbl := hB.l
 have hde := Qm4 v
 have hb1 : (H.put b1 (.row (Qa.c x))) b1 = some (true, .row (Qa.c x)) := Heap.put_same ..
 refine ⟨fun y H' => H.le H' ∧ ∃ r : Nat, y = (r : Int) ∧ r ≤ m ∧ r ≤ deps v.l ∧ (r = deps v.l ∨ m ≤ r), ?_, ?_⟩
 rotate_left
 ·rintro y H' ⟨hle, r, rfl, h0, h1, h2⟩
  rw [Qz (by omega) (by omega)]
  have := k (r + 1) (by omega) (by omega) (by omega)
  exact ⟨H, Gh.le hle, by simpa using this⟩
 refine bxL hb1 ?_
 refine ⟨fun y H' => ∃ i r : Nat, y = ((r : Int), (i : Int)) ∧ i ≤ v.l.length ∧ H.le H' ∧ r ≤ m ∧ r ≤ deps (v.l.take i) ∧ (r = deps (v.l.take i) ∨ m ≤ r), fun y _ => v.l.length - y.2.toNat, ⟨0, 0, rfl, Nat.zero_le _, Heap.le_put n1, Nat.zero_le _, Nat.zero_le _, .inl (by simp [deps])⟩, ?_⟩
 rintro _ H' ⟨i, r, rfl, hi, hle, hr0, hr1, hr2⟩
 have hdti : deps (v.l.take i) ≤ deps v.l := by
  have h1 := Qfq (v.l.take i) (v.l.drop i)
  rw [List.take_append_drop] at h1; omega
 dsimp only
 rw [hl]
 refine ift.of (fun h => ?_) (fun h => ?_)
 ·have hlt : i < v.l.length := by have := of_decide_eq_true h; omega
  have hmem := List.getElem_mem hlt
  have hdl := Qkm hmem
  refine hr.ld hle rfl hlt fun y hy => ?_
  intro b20 n20
  refine ⟨_, Heap.put_same .., by simp [Qa.c], ?_⟩
  rw [Heap.put_put]
  have esp : splice (Qa.c Qa.zero) (b20, 0).2 (Qa.c y) = Qa.c y := rfl
  rw [esp]
  have hle2 := hle.trans (Heap.le_put n20 (g := .row (Qa.c y)) (m := true))
  refine ift.of (fun h => ?_) (fun h => ?_)
  ·have hge : m ≤ r := by have := of_decide_eq_true h; omega
   exact ⟨hle2, r, rfl, by omega, by omega, .inr hge⟩
  ·have hltm : r < m := by have := of_decide_eq_false h; omega
   refine bxV (Heap.put_same ..) ?_
   have em : w .i64 ((m : Int) - 1) = ((m - 1 : Nat) : Int) := by rw [Qz (by omega) (by omega)]; omega
   rw [em]
   refine ih _ hmem (hy.le hle2) (hB.at hlt) (by omega) fun q hq0 hq1 hq2 => ?_
   have hdt := QjH hlt
   rw [Qz (by omega) (by omega)]
   refine ⟨⟨i + 1, max q r, ?_, by omega, hle2, by omega, by omega, ?_⟩, by first | omega | (dsimp only; omega)⟩
   ·refine Prod.ext ?_ rfl
    dsimp only
    split <;> omega
   ·rw [hdt]; omega
 ·have hie : i = v.l.length := by have := of_decide_eq_false h; omega
  subst hie
  rw [List.take_length] at hr1 hr2
  exact ⟨hle, r, rfl, hr0, hr1, hr2⟩
end
end
section
open Go Go.Proofs
theorem u8eq (c : UInt8) (n : Nat) (hn : n < 256) : ((c.toNat : Int) == (n : Int)) = decide (c = UInt8.ofNat n) := by
 rw [Bool.eq_iff_iff]; simp only [decide_eq_true_eq, beq_iff_eq]
 constructor
 ·intro h; exact UInt8.toNat_inj.1 (by rw [UInt8.toNat_ofNat']; omega)
 ·rintro rfl; rw [UInt8.toNat_ofNat']; omega
theorem e48 (c : UInt8) : ((c.toNat : Int) == 48) = decide (c = 48) := u8eq c 48 (by omega)
theorem e45 (c : UInt8) : ((c.toNat : Int) == 45) = decide (c = 45) := u8eq c 45 (by omega)
theorem e46 (c : UInt8) : ((c.toNat : Int) == 46) = decide (c = 46) := u8eq c 46 (by omega)
theorem Qha {α : Type} {p : α → Bool} {s : List α} {i : Nat} (h : i < s.length) : (s.take (i + 1)).all p = ((s.take i).all p && p s[i]) := by
 rw [List.take_add_one, List.getElem?_eq_getElem h, Option.toList_some, List.all_append]; simp
theorem Qls {α : Type} {p : α → Bool} {s : List α} {x : α} (h : x ∈ s) (hp : p x = false) : s.all p = false := by
 rw [List.all_eq_false]; exact ⟨x, h, by simp [hp]⟩
theorem getE {s : Str} {i : Nat} (h : i < s.length) : s[((i : Nat) : Int).toNat]? = some s[i] := by simp [h]
theorem getL {s : Str} (h : 0 < s.length) {x : Int} (hx : x = (s.length : Int) - 1) : s[x.toNat]? = some (s.getLast (List.ne_nil_of_length_pos h)) := by
 subst hx
 have : ((s.length : Int) - 1).toNat = s.length - 1 := by omega
 rw [this, List.getElem?_eq_getElem (by omega), List.getLast_eq_getElem]
section
variable {C : Ctx} {H : Heap}
theorem QjJ {c : UInt8} {K : Bool → Heap → Prop} (k : K (lowC c) H) : QbQ C (c.toNat : Int) K H := by
 apply Qhi
 unfold QeA
 have : (decide ((c.toNat : Int) ≥ 97) && decide ((c.toNat : Int) ≤ 122)) = lowC c := by
  unfold lowC
  rw [Bool.eq_iff_iff]; simp only [Bool.and_eq_true, decide_eq_true_eq]; omega
 rw [this]; exact k
theorem QdV {s : Str} {K : Bool → Heap → Prop} (hs : s.length ≤ 140737488355328) (k : K (nameS s) H) : QbX C s K H := by
 apply QiO
 unfold Qf5
 refine ⟨fun b H' => H = H' ∧ b = (s.isEmpty || decide (s.length > 32) || !lowC (s.headD 0)), ?_, ?_⟩
 ·refine ift.of (fun h => ⟨rfl, ?_⟩) (fun h => ?_)
  ·simp only [Bool.or_eq_true, decide_eq_true_eq, beq_iff_eq] at h
   rcases h with rfl | h
   ·rfl
   ·have : decide (s.length > 32) = true := by rw [decide_eq_true_eq]; omega
    rw [this]; simp
  ·cases s with
   | nil => simp at h
   | cons c t =>
    refine ⟨c, by omega, rfl, ?_⟩
    refine QjJ ⟨rfl, ?_⟩
    simp only [Bool.or_eq_false_iff, decide_eq_false_iff_not] at h
    have : decide ((c :: t).length > 32) = false := by rw [decide_eq_false_iff_not]; omega
    rw [this]; rfl
 rintro b _ ⟨rfl, rfl⟩
 refine ift.of (fun h => ?_) (fun h => ?_)
 ·have : nameS s = false := by
   unfold nameS
   simp only [Bool.or_eq_true, decide_eq_true_eq, Bool.not_eq_true'] at h
   rcases h with (h | h) | h
   ·rw [h]; rfl
   ·have : decide (s.length ≤ 32) = false := by rw [decide_eq_false_iff_not]; omega
    rw [this]; simp
   ·rw [h]; simp
  rw [this] at k; exact k
 have hn : nameS s = s.all nameC := by
  unfold nameS
  simp only [Bool.or_eq_false_iff, decide_eq_false_iff_not, Bool.not_eq_false'] at h
  have : decide (s.length ≤ 32) = true := by rw [decide_eq_true_eq]; omega
  rw [h.1.1, this, h.2]; simp
 refine ⟨fun x H' => ∃ i : Nat, x = (i : Int) ∧ i ≤ s.length ∧ H = H' ∧ (s.take i).all nameC = true, fun x _ => s.length - x.toNat, ⟨0, rfl, Nat.zero_le _, rfl, rfl⟩, ?_⟩
 rintro x _ ⟨i, rfl, hi, rfl, ha⟩
 refine ift.of (fun h => ?_) (fun h => ?_)
 ·have hlt : i < s.length := by have := of_decide_eq_true h; omega
  refine ⟨s[i], by omega, getE hlt, ?_⟩
  dsimp only
  have hm := List.getElem_mem hlt
  have hat := Qha (p := nameC) hlt
  generalize s[i] = c at *
  refine QjJ ?_
  have e : ((((!lowC c) && (!((decide ((c.toNat : Int) ≥ 65)) && (decide ((c.toNat : Int) ≤ 90))))) && (!((decide ((c.toNat : Int) ≥ 48)) && (decide ((c.toNat : Int) ≤ 57))))) && ((c.toNat : Int) != 95)) = !nameC c := by
   unfold nameC
   have h1 : decide ((c.toNat : Int) ≥ 65) = decide (65 ≤ c.toNat) := by rw [decide_eq_decide]; omega
   have h2 : decide ((c.toNat : Int) ≤ 90) = decide (c.toNat ≤ 90) := by rw [decide_eq_decide]; omega
   have h3 : decide ((c.toNat : Int) ≥ 48) = decide (48 ≤ c.toNat) := by rw [decide_eq_decide]; omega
   have h4 : decide ((c.toNat : Int) ≤ 57) = decide (c.toNat ≤ 57) := by rw [decide_eq_decide]; omega
   have h5 : ((c.toNat : Int) != 95) = !decide (c.toNat = 95) := by
    rw [Bool.eq_iff_iff]; simp only [bne_iff_ne, ne_eq, Bool.not_eq_true', decide_eq_false_iff_not]; omega
   rw [h1, h2, h3, h4, h5]; simp only [Bool.not_or]
  rw [e]
  refine ift.of (fun h => ?_) (fun h => ?_)
  ·rw [hn, Qls hm (by simpa using h)] at k; exact k
  ·rw [Qz (by omega) (by omega)]
   refine ⟨⟨i + 1, by omega, by omega, rfl, ?_⟩, by first | omega | (dsimp only; omega)⟩
   rw [hat, ha]; simpa using h
 ·have hie : i = s.length := by have := of_decide_eq_false h; omega
  rw [hie, List.take_length] at ha
  rw [hn, ha] at k; exact k
theorem Qgi {s : Str} {K : Bool → Heap → Prop} (hs : s.length ≤ 140737488355328) (k : K (nameS s) H) : Qbx C s K H := by
 apply QiY
 unfold Qgf
 refine ⟨fun b H' => H = H' ∧ b = (s.isEmpty || decide (s.length > 32) || decide ((s.headD 0).toNat < 97)), ?_, ?_⟩
 ·refine ift.of (fun h => ⟨rfl, ?_⟩) (fun h => ?_)
  ·simp only [Bool.or_eq_true, decide_eq_true_eq, beq_iff_eq] at h
   rcases h with rfl | h
   ·rfl
   ·have : decide (s.length > 32) = true := by rw [decide_eq_true_eq]; omega
    rw [this]; simp
  ·cases s with
   | nil => simp at h
   | cons c t =>
    refine ⟨c, by omega, rfl, rfl, ?_⟩
    simp only [Bool.or_eq_false_iff, decide_eq_false_iff_not] at h
    have : decide ((c :: t).length > 32) = false := by rw [decide_eq_false_iff_not]; omega
    rw [this]
    simp only [List.isEmpty_cons, Bool.false_or, List.headD_cons]
    exact (decide_eq_decide.2 (by omega) : decide ((c.toNat : Int) < 97) = decide (c.toNat < 97))
 rintro b _ ⟨rfl, rfl⟩
 refine ⟨fun b H' => H = H' ∧ b = (s.isEmpty || decide (s.length > 32) || !lowC (s.headD 0)), ?_, ?_⟩
 ·refine ift.of (fun h => ⟨rfl, ?_⟩) (fun h => ?_)
  ·simp only [Bool.or_eq_true, decide_eq_true_eq] at h
   rcases h with (h | h) | h
   ·rw [h]; rfl
   ·have : decide (s.length > 32) = true := by rw [decide_eq_true_eq]; omega
    rw [this]; simp
   ·have : lowC (s.headD 0) = false := by unfold lowC; rw [decide_eq_false (by omega)]; rfl
    rw [this]; simp
  ·simp only [Bool.or_eq_false_iff, decide_eq_false_iff_not] at h
   cases s with
   | nil => simp at h
   | cons c t =>
    refine ⟨c, by omega, rfl, rfl, ?_⟩
    have : decide ((c :: t).length > 32) = false := by rw [decide_eq_false_iff_not]; omega
    rw [this]
    simp only [List.isEmpty_cons, Bool.false_or, List.headD_cons] at h ⊢
    unfold lowC
    rw [decide_eq_true (by omega : 97 ≤ c.toNat), Bool.true_and, ← decide_not, decide_eq_decide]; omega
 rintro b _ ⟨rfl, rfl⟩
 refine ift.of (fun h => ?_) (fun h => ?_)
 ·have : nameS s = false := by
   unfold nameS
   simp only [Bool.or_eq_true, decide_eq_true_eq, Bool.not_eq_true'] at h
   rcases h with (h | h) | h
   ·rw [h]; rfl
   ·have : decide (s.length ≤ 32) = false := by rw [decide_eq_false_iff_not]; omega
    rw [this]; simp
   ·rw [h]; simp
  rw [this] at k; exact k
 have hn : nameS s = s.all nameC := by
  unfold nameS
  simp only [Bool.or_eq_false_iff, decide_eq_false_iff_not, Bool.not_eq_false'] at h
  have : decide (s.length ≤ 32) = true := by rw [decide_eq_true_eq]; omega
  rw [h.1.1, this, h.2]; simp
 refine ⟨fun x H' => ∃ i : Nat, x = (i : Int) ∧ i ≤ s.length ∧ H = H' ∧ (s.take i).all nameC = true, fun x _ => s.length - x.toNat, ⟨0, rfl, Nat.zero_le _, rfl, rfl⟩, ?_⟩
 rintro x _ ⟨i, rfl, hi, rfl, ha⟩
 refine ift.of (fun h => ?_) (fun h => ?_)
 ·have hlt : i < s.length := by have := of_decide_eq_true h; omega
  refine ⟨s[i], by omega, getE hlt, ?_⟩
  dsimp only
  have hm := List.getElem_mem hlt
  have hat := Qha (p := nameC) hlt
  generalize s[i] = c at *
  have e : (!(((((decide ((c.toNat : Int) ≥ 97)) && (decide ((c.toNat : Int) ≤ 122))) || ((decide ((c.toNat : Int) ≥ 65)) && (decide ((c.toNat : Int) ≤ 90)))) || ((decide ((c.toNat : Int) ≥ 48)) && (decide ((c.toNat : Int) ≤ 57)))) || ((c.toNat : Int) == 95))) = !nameC c := by
   unfold nameC lowC
   have h0 : decide ((c.toNat : Int) ≥ 97) = decide (97 ≤ c.toNat) := by rw [decide_eq_decide]; omega
   have h01 : decide ((c.toNat : Int) ≤ 122) = decide (c.toNat ≤ 122) := by rw [decide_eq_decide]; omega
   have h1 : decide ((c.toNat : Int) ≥ 65) = decide (65 ≤ c.toNat) := by rw [decide_eq_decide]; omega
   have h2 : decide ((c.toNat : Int) ≤ 90) = decide (c.toNat ≤ 90) := by rw [decide_eq_decide]; omega
   have h3 : decide ((c.toNat : Int) ≥ 48) = decide (48 ≤ c.toNat) := by rw [decide_eq_decide]; omega
   have h4 : decide ((c.toNat : Int) ≤ 57) = decide (c.toNat ≤ 57) := by rw [decide_eq_decide]; omega
   have h5 : ((c.toNat : Int) == 95) = decide (c.toNat = 95) := by
    rw [Bool.eq_iff_iff]; simp only [beq_iff_eq, decide_eq_true_eq]; omega
   rw [h0, h01, h1, h2, h3, h4, h5]
  rw [e]
  refine ift.of (fun h => ?_) (fun h => ?_)
  ·rw [hn, Qls hm (by simpa using h)] at k; exact k
  ·rw [Qz (by omega) (by omega)]
   refine ⟨⟨i + 1, by omega, by omega, rfl, ?_⟩, by first | omega | (dsimp only; omega)⟩
   rw [hat, ha]; simpa using h
 ·have hie : i = s.length := by have := of_decide_eq_false h; omega
  rw [hie, List.take_length] at ha
  rw [hn, ha] at k; exact k
theorem QnB {s : Str} {i : Nat} (h : i < s.length) (h1 : (46 : UInt8) ∉ s.take i) (h2 : s[i] ≠ 46) : (46 : UInt8) ∉ s.take (i + 1) := by
 rw [List.take_add_one, List.getElem?_eq_getElem h, Option.toList_some, List.mem_append]
 rintro (hh | hh)
 ·exact h1 hh
 ·exact h2 (List.mem_singleton.1 hh).symm
theorem QmV {s : Str} {i : Nat} (h : i < s.length) : s = s.take i ++ s[i] :: s.drop (i + 1) := by
 rw [← List.drop_eq_getElem_cons h, List.take_append_drop]
theorem Qiv {s : Str} {K : Bool → Heap → Prop} (hs : s.length ≤ 140737488355328) (k : K (namesS s) H) : QdF C s K H := by
 apply Qie
 unfold Qfe
 unfold namesS at k
 refine ift.of (fun h => ?_) (fun h => ?_)
 ·simp only [Bool.or_eq_true, beq_iff_eq] at h
  rw [if_pos (show s = trueS ∨ s = falseS from h)] at k; exact k
 simp only [Bool.or_eq_false_iff, beq_eq_false_iff_ne, ne_eq] at h
 rw [if_neg (show ¬ (s = trueS ∨ s = falseS) from fun hh => hh.elim h.1 h.2)] at k
 refine ⟨fun x H' => ∃ i : Nat, x = (i : Int) ∧ i ≤ s.length ∧ H = H' ∧ (46 : UInt8) ∉ s.take i, fun x _ => s.length - x.toNat, ⟨0, rfl, Nat.zero_le _, rfl, by simp⟩, ?_⟩
 rintro x _ ⟨i, rfl, hi, rfl, hno⟩
 refine ift.of (fun h => ?_) (fun h => ?_)
 ·have hlt : i < s.length := by have := of_decide_eq_true h; omega
  refine ⟨s[i], by omega, getE hlt, ?_⟩
  dsimp only
  rw [e46]
  refine ift.of (fun h => ?_) (fun h => ?_)
  ·have hc : s[i] = 46 := of_decide_eq_true h
   have hsp := QmV hlt
   rw [hc] at hsp
   have hcut := Qhz (s.take i) (s.drop (i + 1)) hno
   rw [← hsp] at hcut
   rw [hcut] at k
   dsimp only at k
   refine ⟨by omega, by omega, by omega, _, rfl, ?_⟩
   have e1 : (s.take ((i : Int)).toNat).drop (0 : Int).toNat = s.take i := by simp
   rw [e1]
   refine QdV (by simp; omega) ?_
   refine ⟨fun b H' => H = H' ∧ b = (nameS (s.take i) && nameS (s.drop (i + 1))), ?_, ?_⟩
   ·refine ift.of (fun h => ?_) (fun h => ⟨rfl, by rw [h]; rfl⟩)
    rw [Qz (by omega) (by omega)]
    refine ⟨by omega, by omega, by omega, _, rfl, ?_⟩
    have e2 : (s.take ((s.length : Int)).toNat).drop ((i : Int) + 1).toNat = s.drop (i + 1) := by
     have : ((i : Int) + 1).toNat = i + 1 := by omega
     rw [this]; simp
    rw [e2]
    exact QdV (by simp; omega) ⟨rfl, by rw [h]; rfl⟩
   ·rintro b _ ⟨rfl, rfl⟩
    exact k
  ·have hc : s[i] ≠ 46 := of_decide_eq_false h
   rw [Qz (by omega) (by omega)]
   exact ⟨⟨i + 1, by omega, by omega, rfl, QnB hlt hno hc⟩, by first | omega | (dsimp only; omega)⟩
 ·have hie : i = s.length := by have := of_decide_eq_false h; omega
  rw [hie, List.take_length] at hno
  rw [QhA s hno] at k
  exact QdV hs k
def numT (t : Str) : Bool := !t.isEmpty && !(decide (t.length > 1) && decide (t.head? = some 48)) && t.all digC
theorem QkR {c : UInt8} {t : Str} : numS (45 :: c :: t) = if c = 48 then false else numT (c :: t) := by
 unfold numS numT unmin
 by_cases h : c = 48
 ·subst h; simp
 ·simp [h]
theorem Qnv {s : Str} (h : ¬ (s.length > 1 ∧ s.head? = some 45)) : numS s = numT s := by
 unfold numS numT unmin
 cases s with
 | nil => rfl
 | cons c t =>
  by_cases hc : c = 45
  ·subst hc
   have : t = [] := by cases t with
    | nil => rfl
    | cons d u => exact absurd ⟨by simp, rfl⟩ h
   subst this; decide
  ·simp only [List.head?_cons, Option.some.injEq, hc, if_false]
   by_cases h8 : c = 48
   ·subst h8
    cases t with
    | nil => decide
    | cons d u => simp
   ·simp [h8]
theorem QhT {s : Str} {K : Bool → Heap → Prop} (hs : s.length ≤ 140737488355328) (k : K (numS s) H) : Qc6 C s K H := by
 apply Qhh
 unfold Qez
 refine ⟨fun x H' => H = H' ∧ x.length ≤ s.length ∧ numT x = numS s, ?_, ?_⟩
 ·refine ⟨fun b H' => H = H' ∧ b = decide (s.length > 1 ∧ s.head? = some 45), ?_, ?_⟩
  ·refine ift.of (fun h => ?_) (fun h => ⟨rfl, ?_⟩)
   ·have h1 : s.length > 1 := by have := of_decide_eq_true h; omega
    cases s with
    | nil => simp at h1
    | cons c t =>
     refine ⟨c, by omega, rfl, rfl, ?_⟩
     rw [e45, decide_eq_decide]
     simp at h1 ⊢
     exact fun _ => h1
   ·have h1 := of_decide_eq_false h
    rw [eq_comm, decide_eq_false_iff_not]; omega
  rintro b _ ⟨rfl, rfl⟩
  refine ift.of (fun h => ?_) (fun h => ?_)
  ·obtain ⟨h1, h2⟩ := of_decide_eq_true h
   cases s with
   | nil => simp at h1
   | cons c0 t0 =>
   obtain rfl : c0 = 45 := by simpa using h2
   cases t0 with
   | nil => simp at h1
   | cons c t =>
   refine ⟨by omega, by simp; omega, by omega, c :: t, ?_, ?_⟩
   ·rw [List.take_of_length_le (by omega)]; rfl
   ·refine ⟨c, by omega, rfl, ?_⟩
    dsimp only
    rw [e48]
    rw [QkR] at k
    refine ift.of (fun h => ?_) (fun h => ?_)
    ·rw [if_pos (of_decide_eq_true h)] at k; exact k
    ·refine ⟨rfl, by simp, ?_⟩
     rw [QkR, if_neg (of_decide_eq_false h)]
  ·exact ⟨rfl, Nat.le_refl _, (Qnv (of_decide_eq_false h)).symm⟩
 rintro x _ ⟨rfl, hxl, hx⟩
 rw [← hx] at k
 clear hx
 refine ⟨fun b H' => H = H' ∧ b = (x.isEmpty || (decide (x.length > 1) && decide (x.head? = some 48))), ?_, ?_⟩
 ·refine ift.of (fun h => ⟨rfl, ?_⟩) (fun h => ?_)
  ·have : x = [] := by simpa using h
   subst this; rfl
  ·refine ⟨fun b H' => H = H' ∧ b = (decide (x.length > 1) && decide (x.head? = some 48)), ?_, ?_⟩
   ·refine ift.of (fun h => ?_) (fun h => ⟨rfl, ?_⟩)
    ·have h1 : x.length > 1 := by have := of_decide_eq_true h; omega
     rw [decide_eq_true h1]
     cases x with
     | nil => simp at h1
     | cons c t => exact ⟨c, by omega, rfl, rfl, by rw [e48]; simp⟩
    ·have h1 := of_decide_eq_false h
     rw [decide_eq_false (by omega)]; rfl
   ·rintro b _ ⟨rfl, rfl⟩
    have : x.isEmpty = false := by cases x with
     | nil => simp at h
     | cons c t => rfl
    rw [this]; exact ⟨rfl, rfl⟩
 rintro b _ ⟨rfl, rfl⟩
 have hnt : numT x = (!(x.isEmpty || (decide (x.length > 1) && decide (x.head? = some 48))) && x.all digC) := by unfold numT; simp [Bool.not_or]
 refine ift.of (fun h => ?_) (fun h => ?_)
 ·rw [hnt, h] at k; exact k
 rw [hnt, h, Bool.not_false, Bool.true_and] at k
 refine ⟨fun y H' => ∃ i : Nat, y = (i : Int) ∧ i ≤ x.length ∧ H = H' ∧ (x.take i).all digC = true, fun y _ => x.length - y.toNat, ⟨0, rfl, Nat.zero_le _, rfl, rfl⟩, ?_⟩
 rintro y _ ⟨i, rfl, hi, rfl, ha⟩
 refine ift.of (fun h => ?_) (fun h => ?_)
 ·have hlt : i < x.length := by have := of_decide_eq_true h; omega
  have hm := List.getElem_mem hlt
  have hat := Qha (p := digC) hlt
  have hge := getE hlt
  generalize x[i] = c at *
  refine ⟨c, by omega, hge, ?_⟩
  refine ⟨fun b H' => H = H' ∧ b = !digC c, ?_, ?_⟩
  ·refine ift.of (fun h => ⟨rfl, ?_⟩) (fun h => ?_)
   ·have h1 := of_decide_eq_true h
    unfold digC; rw [decide_eq_false (by omega)]; rfl
   ·have h1 := of_decide_eq_false h
    refine ⟨c, by omega, hge, rfl, ?_⟩
    unfold digC; rw [decide_eq_true (by omega : 48 ≤ c.toNat), Bool.true_and, ← decide_not, decide_eq_decide]; omega
  rintro b _ ⟨rfl, rfl⟩
  refine ift.of (fun h => ?_) (fun h => ?_)
  ·rw [Qls hm (by simpa using h)] at k; exact k
  ·rw [Qz (by omega) (by omega)]
   refine ⟨⟨i + 1, by omega, by omega, rfl, ?_⟩, by first | omega | (dsimp only; omega)⟩
   rw [hat, ha]; simpa using h
 ·have hie : i = x.length := by have := of_decide_eq_false h; omega
  rw [hie, List.take_length] at ha
  rw [ha] at k; exact k
theorem QhS {s : Str} {K : Int → Heap → Prop} (hs : s.length ≤ 140737488355328) (hn : numS s = true) (k : K (digits s) H) : Qc5 C s K H := by
 apply Qhg
 unfold Qey
 cases s with
 | nil => simp [numS, unmin] at hn
 | cons c t =>
  refine ⟨c, by omega, rfl, ?_⟩
  dsimp only
  rw [e45]
  unfold digits unmin at k
  refine ift.of (fun h => ?_) (fun h => ?_)
  ·have hc : c = 45 := of_decide_eq_true h
   rw [if_pos (by rw [hc]; rfl)] at k
   simp at hs
   rw [Qz (by simp only [List.length_cons]; omega) (by simp only [List.length_cons]; omega)]
   simpa using k
  ·rw [if_neg (by simpa using of_decide_eq_false h)] at k; exact k
end
end
section
open Go Go.Proofs
theorem Qiz (c : UInt8) : ∀ s : Str, (Lib.indexByte s c = -1 ∧ c ∉ s) ∨ ∃ k : Nat, Lib.indexByte s c = (k : Int) ∧ ∃ a b, s = a ++ c :: b ∧ a.length = k ∧ c ∉ a
 | [] => .inl ⟨rfl, by simp⟩
 | b :: s => by
  unfold Lib.indexByte
  by_cases h : b = c
  ·subst h
   exact .inr ⟨0, by simp, [], s, rfl, rfl, by simp⟩
  ·have hb : (b == c) = false := by simpa using h
   rw [hb]
   rcases Qiz c s with ⟨h1, h2⟩ | ⟨k, h1, a, d, h2, h3, h4⟩
   ·left
    rw [h1]
    refine ⟨by simp, by simp [h2, Ne.symm h]⟩
   ·right
    refine ⟨k + 1, ?_, b :: a, d, by rw [h2]; rfl, by simp [h3], by simp [h4, Ne.symm h]⟩
    rw [h1]
    have : ((k : Int) == -1) = false := by rw [beq_eq_false_iff_ne]; omega
    simp [this]
def setD (cs : List Value) (l : Str) : List Value := l.foldl (fun cs c => cs.set c.toNat (.bool true)) cs
def setD0 : List Value := List.replicate 256 (.bool false)
def digS : Str := [48, 49, 50, 51, 52, 53, 54, 55, 56, 57]
theorem Qk1 (l : Str) : ∀ cs, (setD cs l).length = cs.length := by
 induction l with
 | nil => intro cs; rfl
 | cons c l ih => intro cs; simp only [setD, List.foldl_cons] at ih ⊢; rw [ih]; simp
theorem Ql7 (l : Str) (c : UInt8) (cs : List Value) : setD cs (l ++ [c]) = (setD cs l).set c.toNat (.bool true) := by simp [setD]
theorem Qne (l : Str) : ∀ cs : List Value, cs.all Value.oneCell' = true → (setD cs l).all Value.oneCell' = true := by
 induction l with
 | nil => intro cs h; exact h
 | cons c l ih =>
  intro cs h
  simp only [setD, List.foldl_cons] at ih ⊢
  refine ih _ ?_
  rw [List.all_eq_true] at h ⊢
  intro x hx
  rcases List.mem_or_eq_of_mem_set hx with hx | rfl
  ·exact h x hx
  ·rfl
theorem QmP : ∀ n : Nat, n < 256 → (match (setD setD0 digS)[n]? with | some (.bool b) => b == (decide (48 ≤ n) && decide (n ≤ 57)) | _ => false) = true := by decide +kernel
theorem QmO (c : UInt8) : (setD setD0 digS)[c.toNat]? = some (.bool (digC c)) := by
 have h := QmP c.toNat c.toBitVec.isLt
 unfold digC
 generalize (setD setD0 digS)[c.toNat]? = o at *
 cases o with
 | none => simp at h
 | some v => cases v <;> simp at h ⊢; exact h
section
variable {C : Ctx} {H : Heap}
theorem QgH {s p : Str} {K : Bool → Heap → Prop} (k : K (p.isPrefixOf s) H) : Qv C s p K H := by
 apply QbB
 unfold Qae
 refine ⟨fun b H' => H = H' ∧ b = p.isPrefixOf s, ?_, ?_⟩
 ·refine ift.of (fun h => ?_) (fun h => ⟨rfl, ?_⟩)
  ·have hl : p.length ≤ s.length := by have := of_decide_eq_true h; omega
   refine ⟨by omega, by omega, by omega, s.take p.length, by simp, rfl, ?_⟩
   rw [Bool.eq_iff_iff, List.isPrefixOf_iff_prefix, beq_iff_eq, List.prefix_iff_eq_take]
   exact ⟨fun h => h.symm, fun h => h.symm⟩
  ·have hl := of_decide_eq_false h
   cases hh : p.isPrefixOf s with
   | false => rfl
   | true =>
    have := (List.isPrefixOf_iff_prefix.1 hh).length_le
    omega
 ·rintro b _ ⟨rfl, rfl⟩
  exact k
theorem Qjp {s p : Str} {K : Str → Heap → Prop} (k : K (if p.isPrefixOf s then s.drop p.length else s) H) : Qbc C s p K H := by
 apply Qei
 unfold Qb5
 apply Qbz
 unfold Q3
 refine QgH ?_
 refine ift.of (fun h => ?_) (fun h => ?_)
 ·rw [if_pos h] at k
  have := (List.isPrefixOf_iff_prefix.1 h).length_le
  exact ⟨by omega, by omega, by omega, _, by simp, k⟩
 ·rw [if_neg (by rw [h]; decide)] at k; exact k
theorem Qlz {s : Str} {K : Str → Str → Bool → Heap → Prop} (hs : s.length ≤ 140737488355328) (k : match cutD s with | some (a, b) => K a b true H | none => K s [] false H) : QdG C s [46] K H := by
 apply Qig
 unfold Qfg
 apply Qcv
 unfold QaZ
 have key : ∀ {K : Int → Heap → Prop}, K (Lib.indexByte s 46) H → QX C s [46] K H := by
  intro K k
  apply Qb7
  unfold QaB
  refine ift.of (fun h => ?_) (fun h => ?_)
  ·have hs : [46] = s := by simpa using h
   subst hs
   exact k
  ·refine Qs rfl ⟨46, by omega, rfl, ?_⟩
   apply QbC
   unfold Qaf
   exact k
 refine key ?_
 rcases Qiz 46 s with ⟨h1, h2⟩ | ⟨i, h1, a, b, h2, h3, h4⟩
 ·rw [h1]
  rw [QhA s h2] at k
  exact Qi rfl k
 ·rw [h1]
  subst h2
  rw [Qhz a b h4] at k
  subst h3
  simp only [List.length_append, List.length_cons] at hs
  refine Qs (by rw [decide_eq_true_eq]; omega) ?_
  refine ⟨by omega, by omega, by simp; omega, a, by simp, ?_⟩
  have e1 : (([46] : Str).length : Int) = 1 := rfl
  rw [e1, Qz (by omega) (by omega)]
  refine ⟨by omega, by simp; omega, by omega, b, ?_, k⟩
  have e2 : ((a.length : Int) + 1).toNat = a.length + 1 := by omega
  rw [List.take_of_length_le (by omega), e2, List.drop_append]
  simp
/-- the set of digits -/
def DSet (H : Heap) (b : Nat) : Prop := H b = some (true, .row (setD setD0 digS))
theorem Qhy {b : Nat} {c : UInt8} {K : Bool → Heap → Prop} (h : DSet H b) (k : K (digC c) H) : QH C (some (b, 0)) (c.toNat : Int) K H := by
 apply Qcm
 unfold QaM
 refine ⟨(b, 0), rfl, by omega, by have := c.toBitVec.isLt; have : c.toNat < 256 := this; omega, digC c, ?_, k⟩
 rw [Qo h]
 have := QmO c
 simpa using this
theorem QmY {b : Nat} {s : Str} {K : Str → Heap → Prop} (hs : s.length ≤ 140737488355328) (h : DSet H b) (k : ∀ t, t.length ≤ s.length → t.all digC = s.all digC → K t H) : Qaj C s (some (b, 0)) K H := by
 apply Qc4
 unfold Qbh
 refine ⟨fun t H' => H = H' ∧ t.length ≤ s.length ∧ t.all digC = s.all digC, ?_, ?_⟩
 rotate_left
 ·rintro t _ ⟨rfl, h1, h2⟩
  exact k t h1 h2
 refine ⟨fun t H' => H = H' ∧ t.length ≤ s.length ∧ t.all digC = s.all digC, fun t _ => t.length, ⟨rfl, Nat.le_refl _, rfl⟩, ?_⟩
 rintro t _ ⟨rfl, h1, h2⟩
 refine ift.of (fun hh => ?_) (fun hh => ⟨rfl, h1, h2⟩)
 have hl : 0 < t.length := by have := of_decide_eq_true hh; omega
 have hne := List.ne_nil_of_length_pos hl
 have hd : t.dropLast ++ [t.getLast hne] = t := List.dropLast_concat_getLast hne
 rw [Qz (by omega) (by omega)]
 refine ⟨t.getLast hne, by omega, getL hl rfl, ?_⟩
 refine Qhy h ?_
 refine ift.of (fun hc => ⟨rfl, h1, h2⟩) (fun hc => ?_)
 have e1 : (t.take ((t.length : Int) - 1).toNat).drop (0 : Int).toNat = t.dropLast := by
  have : ((t.length : Int) - 1).toNat = t.length - 1 := by omega
  rw [this, List.dropLast_eq_take]; simp
 refine ⟨by omega, by omega, by omega, _, e1.symm, ?_⟩
 have hdl := List.length_dropLast (xs := t)
 refine ⟨⟨rfl, by omega, ?_⟩, by dsimp only; omega⟩
 rw [← h2]
 conv => rhs; rw [← hd]
 rw [List.all_append]
 simp at hc
 simp [hc]
theorem QmX {b : Nat} {s : Str} {K : Str → Heap → Prop} (hs : s.length ≤ 140737488355328) (h : DSet H b) (k : ∀ t, t.all digC = s.all digC → (t = [] ∨ t.all digC = false) → K t H) : Qar C s (some (b, 0)) K H := by
 apply Qdi
 unfold Qby
 refine ⟨fun t H' => H = H' ∧ t.all digC = s.all digC ∧ (t = [] ∨ t.all digC = false), ?_, ?_⟩
 rotate_left
 ·rintro t _ ⟨rfl, h1, h2⟩
  exact k t h1 h2
 refine ⟨fun t H' => H = H' ∧ t.length ≤ s.length ∧ t.all digC = s.all digC, fun t _ => t.length, ⟨rfl, Nat.le_refl _, rfl⟩, ?_⟩
 rintro t _ ⟨rfl, h1, h2⟩
 cases t with
 | nil => exact Qi rfl ⟨rfl, h2, .inl rfl⟩
 | cons c t =>
  refine Qs (by rw [decide_eq_true_eq]; simp only [List.length_cons]; omega) ?_
  refine ⟨c, by omega, rfl, ?_⟩
  refine Qhy h ?_
  refine ift.of (fun hc => ⟨rfl, h2, .inr ?_⟩) (fun hc => ?_)
  ·simp at hc; simp [hc]
  ·refine ⟨by omega, by simp only [List.length_cons]; omega, by omega, t, ?_, ⟨rfl, by simp only [List.length_cons] at h1; omega, ?_⟩, by simp⟩
   ·rw [List.take_of_length_le (by omega)]; rfl
   ·rw [← h2]; simp at hc; simp [hc]
theorem Qi7 {K : List Value → Bool → Heap → Prop} (k : K (setD setD0 digS) true H) : Qu C digS K H := by
 apply Qu.gh
 apply QdA
 unfold QbL
 intro b n
 refine ⟨fun x H' => ∃ i : Nat, x = (i : Int) ∧ i ≤ 10 ∧ H' = H.put b (.row (setD setD0 (digS.take i))), fun x _ => 10 - x.toNat, ⟨0, rfl, by omega, rfl⟩, ?_⟩
 rintro x _ ⟨i, rfl, hi, rfl⟩
 have hlen : (setD setD0 (digS.take i)).length = 256 := by rw [Qk1]; simp [setD0]
 refine ift.of (fun h => ?_) (fun h => ?_)
 ·have hlt : i < digS.length := by have := of_decide_eq_true h; omega
  have hlt' : i < 10 := hlt
  refine ⟨digS[i], by omega, getE hlt, ?_⟩
  have hm : ∀ c ∈ digS, c.toNat < 128 := by decide
  have h128 := hm _ (List.getElem_mem hlt)
  have htk : digS.take (i + 1) = digS.take i ++ [digS[i]] := by rw [List.take_add_one, List.getElem?_eq_getElem hlt]; rfl
  generalize digS[i] = c at *
  refine Qi (by rw [decide_eq_false_iff_not]; omega) ?_
  refine ⟨by omega, by omega, _, Heap.put_same .., by rw [hlen]; simp; omega, ?_⟩
  rw [Qz (by omega) (by omega), Heap.put_put]
  refine ⟨⟨i + 1, by omega, by omega, ?_⟩, by first | omega | (dsimp only; omega)⟩
  rw [htk, Ql7]
  have : (b, 0).2 + (c.toNat : Int).toNat * 1 = c.toNat := by simp
  rw [this]
 ·have hi10 : i = 10 := by have := of_decide_eq_false h; have : digS.length = 10 := rfl; omega
  subst hi10
  have e : digS.take 10 = digS := rfl
  rw [e] at hlen ⊢
  have hr : ∀ {B : Heap}, B b = some (true, .row (setD setD0 digS)) → rds B (b, 0) (setD setD0 digS) := fun h => QbP h fun j v hj => by simpa using hj
  refine ⟨_, hlen, hr (Heap.put_same ..), hlen, Qne _ _ (by decide +kernel), _, Heap.put_same .., by simp, ?_⟩
  have esp : splice (setD setD0 digS) (b, 0).2 (setD setD0 digS) = setD setD0 digS := by
   unfold splice; simp
  rw [esp, Heap.put_put]
  exact ⟨_, hlen, hr (Heap.put_same ..), H, Gh.le (Heap.le_put n), k⟩
theorem Qll {s : Str} {K : Str → Heap → Prop} (hs : s.length ≤ 140737488355328) (k : ∀ t, (t = [] ↔ s.all digC = true) → K t H) : Qag C s digS K H := by
 apply Qag.gh
 apply Qhk
 unfold QeC
 refine ift.of (fun h => ?_) (fun h => ?_)
 ·have : s = [] := by simpa [digS] using h
  subst this
  exact ⟨H, Gh.refl _, k [] (by simp)⟩
 refine ⟨fun b H' => H = H' ∧ b = false, Qi rfl ⟨rfl, rfl⟩, ?_⟩
 rintro _ _ ⟨rfl, rfl⟩
 refine Qi rfl ?_
 refine Qi7 ?_
 intro b n
 have hlen : (setD setD0 digS).length = 256 := by rw [Qk1]; simp [setD0]
 refine ⟨hlen, Qne _ _ (by decide +kernel), _, Heap.put_same .., by rw [hlen]; simp, ?_⟩
 have esp : splice (List.replicate 256 (.bool false : Value)) (b, 0).2 (setD setD0 digS) = setD setD0 digS := by
  unfold splice; simp [hlen]
 rw [esp, Heap.put_put]
 refine Qs rfl ?_
 refine QmY hs (Heap.put_same ..) fun t ht1 ht2 => ?_
 refine QmX (by omega) (Heap.put_same ..) fun u hu1 hu2 => ?_
 refine ⟨H, Gh.le (Heap.le_put n), k u ?_⟩
 rw [← ht2, ← hu1]
 constructor
 ·rintro rfl; rfl
 ·intro h
  rcases hu2 with h2 | h2
  ·exact h2
  ·rw [h] at h2; cases h2
theorem Qh1 {s : Str} {K : Int → Bool → Heap → Prop} (hs : s.length ≤ 140737488355328) (k : K (if numS s then (digits s : Int) else 0) (numS s) H) : Qda C s K H := by
 apply Qhr
 unfold QeJ
 refine Qjp ?_
 have e : (if ([45] : Str).isPrefixOf s then s.drop ([45] : Str).length else s) = unmin s := by
  unfold unmin
  cases s with
  | nil => rfl
  | cons c t =>
   by_cases hc : c = 45
   ·subst hc; simp [List.isPrefixOf]
   ·simp [List.isPrefixOf, hc, Ne.symm hc]
 rw [e]
 have hul : (unmin s).length ≤ s.length := by unfold unmin; split <;> simp
 have hdg : digits s = (unmin s).length := rfl
 have hnu : numS s = (!(unmin s).isEmpty && (unmin s).all digC && !(decide ((unmin s).head? = some 48) && decide (s ≠ [48]))) := rfl
 rw [hdg, hnu] at k
 clear hdg hnu e
 generalize unmin s = d at *
 refine ⟨fun b H' => H = H' ∧ b = !(!d.isEmpty && d.all digC), ?_, ?_⟩
 ·refine ift.of (fun h => ⟨rfl, ?_⟩) (fun h => ?_)
  ·have : d = [] := by simpa using h
   subst this; rfl
  ·have hne : d ≠ [] := by simpa using h
   refine Qll (by omega) fun t ht => ⟨rfl, ?_⟩
   have he : d.isEmpty = false := by cases d with
    | nil => exact absurd rfl hne
    | cons _ _ => rfl
   rw [he]
   cases hd : d.all digC with
   | true => rw [ht.2 hd]; rfl
   | false =>
    have : t ≠ [] := fun e => by rw [ht.1 e] at hd; cases hd
    simpa using this
 rintro b _ ⟨rfl, rfl⟩
 refine ⟨fun b H' => H = H' ∧ b = !(!d.isEmpty && d.all digC && !(decide (d.head? = some 48) && decide (s ≠ [48]))), ?_, ?_⟩
 ·refine ift.of (fun h => ⟨rfl, ?_⟩) (fun h => ?_)
  ·simp only [Bool.not_eq_true'] at h
   rw [h]; rfl
  ·simp only [Bool.not_eq_false'] at h
   rw [h]
   cases d with
   | nil => simp at h
   | cons c t =>
    refine ⟨c, by omega, rfl, rfl, ?_⟩
    rw [e48]
    simp only [List.head?_cons, Option.some.injEq, Bool.true_and, Bool.not_not]
    congr 1
    rw [decide_not]; congr 1
    rw [Bool.eq_iff_iff]; simp
 rintro b _ ⟨rfl, rfl⟩
 refine ift.of (fun h => ?_) (fun h => ?_)
 ·simp only [Bool.not_eq_true'] at h
  rw [h] at k; exact k
 ·simp only [Bool.not_eq_false'] at h
  rw [h] at k; exact k
end
end
section
open Go Go.Proofs
section
variable {C : Ctx} {H : Heap}
theorem sEmpty {s : Str} : (s == ([] : Str)) = s.isEmpty := by cases s <;> rfl
theorem lenZ {l : List V} {n : Nat} (h : n = l.length) (m : Nat) : ((n : Int) == (m : Int)) = decide (l.length = m) := by
 rw [Bool.eq_iff_iff]; simp only [beq_iff_eq, decide_eq_true_eq]; omega
theorem Qjh {v : V} {x : TV} {H : Heap} {K : Bool → Heap → Prop} (hv : VIs H v x) (hB : VB v) (k : K (formV v) H) : Q9 C x K H := by
 refine V.rec_ (P := fun v => ∀ {x H} {K : Bool → Heap → Prop}, VIs H v x → VB v → K (formV v) H → Q9 C x K H) (fun v ih => ?_) v hv hB k
 clear hv hB k
 intro x H K hv hB k
 apply Q9.gh
 apply QiR
 unfold Qf8
 intro b1 n1
 have hr := hv.row
 have hl := hr.len
 have hbl := hB.l
 have hbs := hB.s
 have hk := hv.kind
 have hn := hv.num
 have ht := hv.txt
 have hb1 : (H.put b1 (.row (Qa.c x))) b1 = some (true, .row (Qa.c x)) := Heap.put_same ..
 have hle1 := Heap.le_put n1 (g := .row (Qa.c x)) (m := true)
 generalize H.put b1 (.row (Qa.c x)) = H1 at *
 refine ⟨fun b H' => H1 = H' ∧ b = okN v.k v.n v.s v.l.length, ?_, ?_⟩
 rotate_left
 ·rintro b _ ⟨rfl, rfl⟩
  refine ⟨fun y H' => ∃ i : Nat, y.2 = (i : Int) ∧ i ≤ v.l.length ∧ H1 = H' ∧ (y.1 = true → okN v.k v.n v.s v.l.length = true ∧ formVs (v.l.take i) = true) ∧ (y.1 = false → formV v = false), fun y _ => v.l.length - y.2.toNat, ⟨0, rfl, Nat.zero_le _, rfl, fun h => ⟨h, rfl⟩, fun h => by dsimp only at h; rw [Qcp, h]; rfl⟩, ?_⟩
  rintro ⟨f, y⟩ _ ⟨i, hy, hi, rfl, h1, h2⟩
  dsimp only at hy h1 h2
  subst hy
  refine bxL hb1 ?_
  rw [hl]
  refine ift.of (fun h => ?_) (fun h => ?_)
  ·simp only [Bool.and_eq_true, decide_eq_true_eq] at h
   have hlt : i < v.l.length := by omega
   obtain ⟨h3, h4⟩ := h1 h.2
   have hmem := List.getElem_mem hlt
   refine bxL hb1 ?_
   refine hr.ld hle1 rfl hlt fun z hz => ?_
   refine ih _ hmem (hz.le hle1) (hB.at hlt) ?_
   dsimp only
   rw [Qz (by omega) (by omega)]
   refine ⟨⟨i + 1, by omega, by omega, rfl, fun hf => ⟨h3, ?_⟩, fun hf => ?_⟩, by first | omega | (dsimp only; omega)⟩
   ·rw [QhE hlt, h4]; exact hf
   ·rw [Qcp, Qem hmem hf, Bool.and_false]
  ·dsimp only
   refine ⟨H, Gh.le hle1, ?_⟩
   cases hf : f with
   | false => rw [h2 hf] at k; exact k
   | true =>
    rw [hf] at h
    simp only [Bool.and_true, decide_eq_false_iff_not] at h
    have hie : i = v.l.length := by omega
    subst hie
    obtain ⟨h3, h4⟩ := h1 hf
    rw [List.take_length] at h4
    rw [Qcp, h3, h4] at k; exact k
 refine bxK hb1 ?_
 rw [hk]
 unfold okN
 refine ift.of (fun h => ?_) (fun h => ?_)
 ·have h : v.k = 1 := by simpa using h
  rw [if_pos h]
  refine bxN hb1 ?_
  refine ⟨fun b H' => H1 = H' ∧ b = (v.n == 0 || v.n == 1), ?_, ?_⟩
  ·rw [hn]
   refine ift.of (fun h => ⟨rfl, by rw [h]; rfl⟩) (fun h => ?_)
   refine bxN hb1 ⟨rfl, ?_⟩
   rw [h, hn]; rfl
  rintro _ _ ⟨rfl, rfl⟩
  refine ⟨fun b H' => H1 = H' ∧ b = ((v.n == 0 || v.n == 1) && v.s.isEmpty), ?_, ?_⟩
  ·refine ift.of (fun h => ?_) (fun h => ⟨rfl, by rw [h]; rfl⟩)
   refine bxS hb1 ⟨rfl, ?_⟩
   rw [h, ht, sEmpty]; rfl
  rintro _ _ ⟨rfl, rfl⟩
  refine ⟨fun b H' => H1 = H' ∧ b = ((v.n == 0 || v.n == 1) && v.s.isEmpty && decide (v.l.length = 0)), ?_, ?_⟩
  ·refine ift.of (fun h => ?_) (fun h => ⟨rfl, by rw [h]; rfl⟩)
   refine bxL hb1 ⟨rfl, ?_⟩
   rw [h]; exact lenZ hl 0
  rintro _ _ ⟨rfl, rfl⟩
  exact ⟨rfl, rfl⟩
 rw [if_neg (by simpa using h)]
 refine ift.of (fun h => ?_) (fun h => ?_)
 ·have h : v.k = 2 := by simpa using h
  rw [if_pos h]
  refine bxS hb1 ?_
  refine ⟨fun b H' => H1 = H' ∧ b = (v.s.isEmpty && decide (v.l.length = 0)), ?_, ?_⟩
  ·rw [ht, sEmpty]
   refine ift.of (fun h => ?_) (fun h => ⟨rfl, by rw [h]; rfl⟩)
   refine bxL hb1 ⟨rfl, ?_⟩
   rw [h]; exact lenZ hl 0
  rintro _ _ ⟨rfl, rfl⟩
  exact ⟨rfl, rfl⟩
 rw [if_neg (by simpa using h)]
 refine ift.of (fun h => ?_) (fun h => ?_)
 ·have h : v.k = 3 := by simpa using h
  rw [if_pos h]
  refine bxN hb1 ?_
  refine ⟨fun b H' => H1 = H' ∧ b = (v.n == 0 && decide (v.l.length = 0)), ?_, ?_⟩
  ·rw [hn]
   refine ift.of (fun h => ?_) (fun h => ⟨rfl, by rw [h]; rfl⟩)
   refine bxL hb1 ⟨rfl, ?_⟩
   rw [h]; exact lenZ hl 0
  rintro _ _ ⟨rfl, rfl⟩
  refine ⟨fun b H' => H1 = H' ∧ b = (numS v.s && v.n == 0 && decide (v.l.length = 0)), ?_, ?_⟩
  ·refine ift.of (fun h => ?_) (fun h => ⟨rfl, ?_⟩)
   ·refine bxS hb1 ?_
    rw [ht]
    refine QhT hbs ⟨rfl, ?_⟩
    rw [Bool.and_assoc, h, Bool.and_true]
   ·rw [Bool.and_assoc, h, Bool.and_false]
  rintro _ _ ⟨rfl, rfl⟩
  exact ⟨rfl, rfl⟩
 rw [if_neg (by simpa using h)]
 refine ift.of (fun h => ?_) (fun h => ?_)
 ·have h : v.k = 4 := by simpa using h
  rw [if_pos h]
  refine bxN hb1 ?_
  refine ⟨fun b H' => H1 = H' ∧ b = (v.n == 0 && decide (v.l.length = 0)), ?_, ?_⟩
  ·rw [hn]
   refine ift.of (fun h => ?_) (fun h => ⟨rfl, by rw [h]; rfl⟩)
   refine bxL hb1 ⟨rfl, ?_⟩
   rw [h]; exact lenZ hl 0
  rintro _ _ ⟨rfl, rfl⟩
  exact ⟨rfl, rfl⟩
 rw [if_neg (by simpa using h)]
 refine ift.of (fun h => ?_) (fun h => ?_)
 ·have h : v.k = 5 := by simpa using h
  rw [if_pos h]
  refine bxN hb1 ?_
  refine ⟨fun b H' => H1 = H' ∧ b = (v.n == 0 && v.s.isEmpty), ?_, ?_⟩
  ·rw [hn]
   refine ift.of (fun h => ?_) (fun h => ⟨rfl, by rw [h]; rfl⟩)
   refine bxS hb1 ⟨rfl, ?_⟩
   rw [h, ht, sEmpty]; rfl
  rintro _ _ ⟨rfl, rfl⟩
  refine ⟨fun b H' => H1 = H' ∧ b = (v.n == 0 && v.s.isEmpty && decide (v.l.length ≠ 1)), ?_, ?_⟩
  ·refine ift.of (fun h => ?_) (fun h => ⟨rfl, by rw [h]; rfl⟩)
   refine bxL hb1 ⟨rfl, ?_⟩
   rw [h, bne, show ((x.L.len : Int) == 1) = decide (v.l.length = 1) from lenZ hl 1, decide_not]; rfl
  rintro _ _ ⟨rfl, rfl⟩
  exact ⟨rfl, rfl⟩
 rw [if_neg (by simpa using h)]
 refine ift.of (fun h => ?_) (fun h => ?_)
 ·have h : v.k = 6 := by simpa using h
  rw [if_pos h]
  refine bxN hb1 ?_
  refine ⟨fun b H' => H1 = H' ∧ b = (v.n == 0 && namesS v.s), ?_, ?_⟩
  ·rw [hn]
   refine ift.of (fun h => ?_) (fun h => ⟨rfl, by rw [h]; rfl⟩)
   refine bxS hb1 ?_
   rw [ht]
   refine Qiv hbs ⟨rfl, ?_⟩
   rw [h]; rfl
  rintro _ _ ⟨rfl, rfl⟩
  exact ⟨rfl, rfl⟩
 rw [if_neg (by simpa using h)]
 exact ⟨rfl, rfl⟩
theorem QhG {k n : Int} {s : Str} {m : Nat} (h : okN k n s m = true) (hk : k = 3) : numS s = true := by
 unfold okN at h
 rw [if_neg (by omega), if_neg (by omega), if_pos hk] at h
 simp only [Bool.and_eq_true] at h
 exact h.1.1
theorem Qjg {v : V} {x : TV} {H : Heap} {K : Bool → Heap → Prop} (hv : VIs H v x) (hB : VB v) (hF : formV v = true) (k : K (fitsV v) H) : Q8 C x K H := by
 refine V.rec_ (P := fun v => ∀ {x H} {K : Bool → Heap → Prop}, VIs H v x → VB v → formV v = true → K (fitsV v) H → Q8 C x K H) (fun v ih => ?_) v hv hB hF k
 clear hv hB hF k
 intro x H K hv hB hF k
 apply Q8.gh
 apply QiQ
 unfold Qf7
 intro b1 n1
 have hr := hv.row
 have hl := hr.len
 have hbl := hB.l
 have hbs := hB.s
 have hk := hv.kind
 have hn := hv.num
 have ht := hv.txt
 rw [Qcp, Bool.and_eq_true] at hF
 have hb1 : (H.put b1 (.row (Qa.c x))) b1 = some (true, .row (Qa.c x)) := Heap.put_same ..
 have hle1 := Heap.le_put n1 (g := .row (Qa.c x)) (m := true)
 generalize H.put b1 (.row (Qa.c x)) = H1 at *
 refine ⟨fun b H' => H1 = H' ∧ b = fitN v.k v.s v.l.length, ?_, ?_⟩
 rotate_left
 ·rintro b _ ⟨rfl, rfl⟩
  refine ⟨fun y H' => ∃ i : Nat, y.2 = (i : Int) ∧ i ≤ v.l.length ∧ H1 = H' ∧ (y.1 = true → fitN v.k v.s v.l.length = true ∧ fitsVs (v.l.take i) = true) ∧ (y.1 = false → fitsV v = false), fun y _ => v.l.length - y.2.toNat, ⟨0, rfl, Nat.zero_le _, rfl, fun h => ⟨h, rfl⟩, fun h => by dsimp only at h; rw [QfP, h]; rfl⟩, ?_⟩
  rintro ⟨f, y⟩ _ ⟨i, hy, hi, rfl, h1, h2⟩
  dsimp only at hy h1 h2
  subst hy
  refine bxL hb1 ?_
  rw [hl]
  refine ift.of (fun h => ?_) (fun h => ?_)
  ·simp only [Bool.and_eq_true, decide_eq_true_eq] at h
   have hlt : i < v.l.length := by omega
   obtain ⟨h3, h4⟩ := h1 h.2
   have hmem := List.getElem_mem hlt
   refine bxL hb1 ?_
   refine hr.ld hle1 rfl hlt fun z hz => ?_
   refine ih _ hmem (hz.le hle1) (hB.at hlt) (Qcs hmem hF.2) ?_
   dsimp only
   rw [Qz (by omega) (by omega)]
   refine ⟨⟨i + 1, by omega, by omega, rfl, fun hf => ⟨h3, ?_⟩, fun hf => ?_⟩, by first | omega | (dsimp only; omega)⟩
   ·rw [Qfr hlt, h4]; exact hf
   ·have h5 : fitsVs (v.l.take (i + 1)) = false := by rw [Qfr hlt]; rw [hf, Bool.and_false]
    have h6 := QdL (v.l.take (i + 1)) (v.l.drop (i + 1))
    rw [List.take_append_drop, h5] at h6
    rw [QfP, h6]; simp
  ·dsimp only
   refine ⟨H, Gh.le hle1, ?_⟩
   cases hf : f with
   | false => rw [h2 hf] at k; exact k
   | true =>
    rw [hf] at h
    simp only [Bool.and_true, decide_eq_false_iff_not] at h
    have hie : i = v.l.length := by omega
    subst hie
    obtain ⟨h3, h4⟩ := h1 hf
    rw [List.take_length] at h4
    rw [QfP, h3, h4] at k; exact k
 refine bxK hb1 ?_
 rw [hk]
 unfold fitN
 refine ift.of (fun h => ?_) (fun h => ?_)
 ·have h : v.k = 3 := by simpa using h
  rw [if_pos h]
  refine bxS hb1 ?_
  rw [ht]
  refine QhS hbs (QhG hF.1 h) ⟨rfl, ?_⟩
  rw [decide_eq_decide]; omega
 rw [if_neg (by simpa using h)]
 refine ift.of (fun h => ?_) (fun h => ?_)
 ·have h : v.k = 4 := by simpa using h
  rw [if_pos h]
  refine bxS hb1 ⟨rfl, ?_⟩
  rw [ht, decide_eq_decide]; omega
 rw [if_neg (by simpa using h)]
 refine ift.of (fun h => ?_) (fun h => ?_)
 ·have h : v.k = 5 := by simpa using h
  rw [if_pos h]
  refine bxL hb1 ⟨rfl, ?_⟩
  rw [decide_eq_decide]; omega
 rw [if_neg (by simpa using h)]
 refine ift.of (fun h => ?_) (fun h => ?_)
 ·have h : v.k = 6 := by simpa using h
  rw [if_pos h]
  refine bxL hb1 ⟨rfl, ?_⟩
  rw [decide_eq_decide]; omega
 rw [if_neg (by simpa using h)]
 exact ⟨rfl, rfl⟩
theorem Qit {v : V} {x : TV} {H : Heap} {K : Int → Heap → Prop} (hv : VIs H v x) (hB : VB v) (hs : vsize v ≤ 4611686018427387904) (k : K (checkV v) H) : Qao C x K H := by
 apply Qao.gh
 apply Qic
 unfold Qfc
 intro b1 n1
 have hb1 : (H.put b1 (.row (Qa.c x))) b1 = some (true, .row (Qa.c x)) := Heap.put_same ..
 have hle1 := Heap.le_put n1 (g := .row (Qa.c x)) (m := true)
 generalize H.put b1 (.row (Qa.c x)) = H1 at *
 unfold checkV at k
 refine bxV hb1 (Qiu (hv.le hle1) hB hs ?_)
 refine ift.of (fun h => ?_) (fun h => ?_)
 ·have h := of_decide_eq_true h
  rw [if_pos (by omega)] at k
  exact ⟨H, Gh.le hle1, k⟩
 have h := of_decide_eq_false h
 rw [if_neg (by omega)] at k
 refine bxV hb1 (Qjh (hv.le hle1) hB ?_)
 refine ift.of (fun h => ?_) (fun h => ?_)
 ·have h : formV v = false := by simpa using h
  rw [if_pos h] at k
  exact ⟨H, Gh.le hle1, k⟩
 have hf : formV v = true := by simpa using h
 rw [if_neg (by rw [hf]; decide)] at k
 refine bxV hb1 (Qjg (hv.le hle1) hB hf ?_)
 refine ift.of (fun h => ?_) (fun h => ?_)
 ·have h : fitsV v = false := by simpa using h
  rw [if_pos h] at k
  exact ⟨H, Gh.le hle1, k⟩
 have hf : fitsV v = true := by simpa using h
 rw [if_neg (by rw [hf]; decide)] at k
 exact ⟨H, Gh.le hle1, k⟩
end
end
section
open Go Go.Proofs
theorem QlN (s : Str) : namesS s = (match cutD s with | some (a, b) => nameS a && nameS b | none => nameS s && !decide (s = trueS) && !decide (s = falseS)) := by
 unfold namesS
 by_cases ht : s = trueS
 ·subst ht; rfl
 by_cases hf : s = falseS
 ·subst hf; rfl
 rw [if_neg (fun h => h.elim ht hf)]
 cases hc : cutD s with
 | none => simp [ht, hf]
 | some p => rfl
section
variable {C : Ctx} {H : Heap}
theorem Qns {v : V} {x : TV} {H : Heap} {K : Bool → Bool → Heap → Prop} (hv : VIs H v x) (hB : VB v) (k : ∀ g, (formV v = true → g = fitsV v) → K (formV v) g H) : Qx C x K H := by
 refine V.rec_ (P := fun v => ∀ {x H} {K : Bool → Bool → Heap → Prop}, VIs H v x → VB v → (∀ g, (formV v = true → g = fitsV v) → K (formV v) g H) → Qx C x K H) (fun v ih => ?_) v hv hB k
 clear hv hB k
 intro x H K hv hB k
 apply Qx.gh
 apply QfL
 unfold Qc2
 intro b1 n1
 have hr := hv.row
 have hl := hr.len
 have hbl := hB.l
 have hbs := hB.s
 have hk := hv.kind
 have hn := hv.num
 have ht := hv.txt
 have hb1 : (H.put b1 (.row (Qa.c x))) b1 = some (true, .row (Qa.c x)) := Heap.put_same ..
 have hle1 := Heap.le_put n1 (g := .row (Qa.c x)) (m := true)
 generalize H.put b1 (.row (Qa.c x)) = H1 at *
 refine bxN hb1 ?_
 refine ⟨fun b H' => H1 = H', ?_, ?_⟩
 ·exact ift.of (fun _ => bxS hb1 rfl) (fun _ => rfl)
 rintro _ _ rfl
 refine ⟨fun b H' => H1 = H', ?_, ?_⟩
 ·exact ift.of (fun _ => bxL hb1 rfl) (fun _ => rfl)
 rintro _ _ rfl
 refine ⟨fun b H' => H1 = H' ∧ b.1 = okN v.k v.n v.s v.l.length ∧ (b.1 = true → b.2 = fitN v.k v.s v.l.length), ?_, ?_⟩
 rotate_left
 ·rintro ⟨o, g⟩ _ ⟨rfl, ho, hg⟩
  dsimp only at ho hg ⊢
  subst ho
  refine bxL hb1 ?_
  refine ⟨fun y H' => ∃ i : Nat, y.2.2 = (i : Int) ∧ i ≤ v.l.length ∧ H.le H' ∧ y.1 = (okN v.k v.n v.s v.l.length && formVs (v.l.take i)) ∧ (y.1 = true → y.2.1 = (fitN v.k v.s v.l.length && fitsVs (v.l.take i))), fun y _ => v.l.length - y.2.2.toNat, ⟨0, rfl, Nat.zero_le _, hle1, by simp [formVs], fun h => by simp [fitsVs, hg h]⟩, ?_⟩
  rintro ⟨f, g', y⟩ H2 ⟨i, hy, hi, hle, h1, h2⟩
  dsimp only at hy h1 h2
  subst hy
  dsimp only
  rw [hl]
  refine ift.of (fun h => ?_) (fun h => ?_)
  ·have hlt : i < v.l.length := by have := of_decide_eq_true h; omega
   have hmem := List.getElem_mem hlt
   refine hr.ld hle rfl hlt fun z hz => ?_
   intro b20 n20
   refine ⟨_, Heap.put_same .., by simp [Qa.c], ?_⟩
   rw [Heap.put_put]
   have esp : splice (Qa.c Qa.zero) (b20, 0).2 (Qa.c z) = Qa.c z := rfl
   rw [esp]
   have hle2 := hle.trans (Heap.le_put n20 (g := .row (Qa.c z)) (m := true))
   refine bxV (Heap.put_same ..) ?_
   refine ih _ hmem (hz.le hle2) (hB.at hlt) fun q hq => ?_
   rw [Qz (by omega) (by omega)]
   refine ⟨⟨i + 1, by omega, by omega, hle2, ?_, fun hh => ?_⟩, by first | omega | (dsimp only; omega)⟩
   ·rw [h1, QhE hlt, Bool.and_assoc]
   ·rw [Bool.and_eq_true] at hh
    rw [h2 hh.1, Qfr hlt, hq hh.2, Bool.and_assoc]
  ·have hie : i = v.l.length := by have := of_decide_eq_false h; omega
   subst hie
   rw [List.take_length] at h1 h2
   rw [← Qcp] at h1
   rw [← QfP] at h2
   refine ⟨H, Gh.le hle, ?_⟩
   rw [h1] at h2 ⊢
   exact k g' h2
 refine bxK hb1 ?_
 rw [hk]
 refine ift.of (fun h => ?_) (fun h => ?_)
 ·have h : v.k = 1 := by simpa using h
  have eo : okN v.k v.n v.s v.l.length = ((v.n == 0 || v.n == 1) && v.s.isEmpty && decide (v.l.length = 0)) := by rw [h]; rfl
  have ef : fitN v.k v.s v.l.length = true := by rw [h]; rfl
  rw [eo, ef]
  refine bxN hb1 ?_
  refine ⟨fun b H' => H1 = H' ∧ b = (v.n == 0 || v.n == 1), ?_, ?_⟩
  ·rw [hn]
   refine ift.of (fun h => ⟨rfl, by rw [h]; rfl⟩) (fun h => ?_)
   refine bxN hb1 ⟨rfl, ?_⟩
   rw [h, hn]; rfl
  rintro _ _ ⟨rfl, rfl⟩
  refine ⟨fun b H' => H1 = H' ∧ b = ((v.n == 0 || v.n == 1) && v.s.isEmpty), ?_, ?_⟩
  ·refine ift.of (fun h => ?_) (fun h => ⟨rfl, by rw [h]; rfl⟩)
   refine bxS hb1 ⟨rfl, ?_⟩
   rw [h, ht, sEmpty]; rfl
  rintro _ _ ⟨rfl, rfl⟩
  refine ⟨fun b H' => H1 = H' ∧ b = ((v.n == 0 || v.n == 1) && v.s.isEmpty && decide (v.l.length = 0)), ?_, ?_⟩
  ·refine ift.of (fun h => ?_) (fun h => ⟨rfl, by rw [h]; rfl⟩)
   refine bxL hb1 ⟨rfl, ?_⟩
   rw [h]; exact lenZ hl 0
  rintro _ _ ⟨rfl, rfl⟩
  exact ⟨rfl, rfl, fun _ => rfl⟩
 have g1 : v.k ≠ 1 := by simpa using h
 refine ift.of (fun h => ?_) (fun h => ?_)
 ·have h : v.k = 2 := by simpa using h
  have eo : okN v.k v.n v.s v.l.length = (v.s.isEmpty && decide (v.l.length = 0)) := by rw [h]; rfl
  have ef : fitN v.k v.s v.l.length = true := by rw [h]; rfl
  rw [eo, ef]
  refine bxS hb1 ?_
  refine ⟨fun b H' => H1 = H' ∧ b = (v.s.isEmpty && decide (v.l.length = 0)), ?_, ?_⟩
  ·rw [ht, sEmpty]
   refine ift.of (fun h => ?_) (fun h => ⟨rfl, by rw [h]; rfl⟩)
   refine bxL hb1 ⟨rfl, ?_⟩
   rw [h]; exact lenZ hl 0
  rintro _ _ ⟨rfl, rfl⟩
  exact ⟨rfl, rfl, fun _ => rfl⟩
 have g2 : v.k ≠ 2 := by simpa using h
 refine ift.of (fun h => ?_) (fun h => ?_)
 ·have h : v.k = 3 := by simpa using h
  have eo : okN v.k v.n v.s v.l.length = (numS v.s && v.n == 0 && decide (v.l.length = 0)) := by rw [h]; rfl
  have ef : fitN v.k v.s v.l.length = decide (digits v.s ≤ 200) := by rw [h]; rfl
  rw [eo, ef]
  refine bxS hb1 ?_
  rw [ht]
  refine Qh1 hbs ?_
  refine ⟨fun b H' => H1 = H' ∧ b = (numS v.s && v.n == 0), ?_, ?_⟩
  ·refine ift.of (fun h => ?_) (fun h => ⟨rfl, by rw [h]; rfl⟩)
   refine bxN hb1 ⟨rfl, ?_⟩
   rw [h, hn]; rfl
  rintro _ _ ⟨rfl, rfl⟩
  refine ⟨fun b H' => H1 = H' ∧ b = (numS v.s && v.n == 0 && decide (v.l.length = 0)), ?_, ?_⟩
  ·refine ift.of (fun h => ?_) (fun h => ⟨rfl, by rw [h]; rfl⟩)
   refine bxL hb1 ⟨rfl, ?_⟩
   rw [h]; exact lenZ hl 0
  rintro _ _ ⟨rfl, rfl⟩
  refine ⟨rfl, rfl, fun hh => ?_⟩
  dsimp only at hh ⊢
  simp only [Bool.and_eq_true] at hh
  rw [hh.1.1, if_pos rfl, decide_eq_decide]; omega
 have g3 : v.k ≠ 3 := by simpa using h
 refine ift.of (fun h => ?_) (fun h => ?_)
 ·have h : v.k = 4 := by simpa using h
  have eo : okN v.k v.n v.s v.l.length = (v.n == 0 && decide (v.l.length = 0)) := by rw [h]; rfl
  have ef : fitN v.k v.s v.l.length = decide (v.s.length ≤ 4096) := by rw [h]; rfl
  rw [eo, ef]
  have ed : decide ((v.s.length : Int) ≤ 4096) = decide (v.s.length ≤ 4096) := by rw [decide_eq_decide]; omega
  refine ⟨fun b H' => H1 = H' ∧ b = ((v.n == 0 && decide (v.l.length = 0)), decide (v.s.length ≤ 4096)), ?_, ?_⟩
  ·refine ⟨H1, Heap.le.refl _, bxN hb1 (bxS hb1 ?_)⟩
   rw [hn, ht, ed]
   refine ift.of (fun h => ?_) (fun h => ⟨rfl, by rw [h]; rfl⟩)
   refine bxL hb1 ⟨rfl, ?_⟩
   rw [h, show ((x.L.len : Int) == 0) = decide (v.l.length = 0) from lenZ hl 0]; rfl
  rintro _ _ ⟨rfl, rfl⟩
  exact ⟨rfl, rfl, fun _ => rfl⟩
 have g4 : v.k ≠ 4 := by simpa using h
 refine ift.of (fun h => ?_) (fun h => ?_)
 ·have h : v.k = 5 := by simpa using h
  have eo : okN v.k v.n v.s v.l.length = (v.n == 0 && v.s.isEmpty && decide (v.l.length ≠ 1)) := by rw [h]; rfl
  have ef : fitN v.k v.s v.l.length = decide (v.l.length ≤ 16) := by rw [h]; rfl
  rw [eo, ef]
  have ed : decide ((x.L.len : Int) ≤ 16) = decide (v.l.length ≤ 16) := by rw [decide_eq_decide]; omega
  refine ⟨fun b H' => H1 = H' ∧ b = ((v.n == 0 && v.s.isEmpty && decide (v.l.length ≠ 1)), decide (v.l.length ≤ 16)), ?_, ?_⟩
  ·refine ⟨H1, Heap.le.refl _, bxN hb1 (bxL hb1 ?_)⟩
   rw [hn, ed]
   refine ift.of (fun h => ?_) (fun h => ⟨rfl, by rw [h]; rfl⟩)
   refine bxS hb1 ?_
   rw [ht, sEmpty]
   refine ift.of (fun h2 => ?_) (fun h2 => ⟨rfl, by rw [h2]; simp⟩)
   refine bxL hb1 ⟨rfl, ?_⟩
   rw [h, h2, bne, show ((x.L.len : Int) == 1) = decide (v.l.length = 1) from lenZ hl 1, decide_not]; rfl
  rintro _ _ ⟨rfl, rfl⟩
  exact ⟨rfl, rfl, fun _ => rfl⟩
 have g5 : v.k ≠ 5 := by simpa using h
 refine ift.of (fun h => ?_) (fun h => ?_)
 ·have h : v.k = 6 := by simpa using h
  have eo : okN v.k v.n v.s v.l.length = (v.n == 0 && namesS v.s) := by rw [h]; rfl
  have ef : fitN v.k v.s v.l.length = decide (v.l.length ≤ 8) := by rw [h]; rfl
  rw [eo, ef]
  have ed : decide ((x.L.len : Int) ≤ 8) = decide (v.l.length ≤ 8) := by rw [decide_eq_decide]; omega
  refine bxS hb1 ?_
  rw [ht]
  refine Qlz hbs ?_
  have key : ∀ (a b : Str) (two : Bool), a.length ≤ 140737488355328 → b.length ≤ 140737488355328 → namesS v.s = (if two then nameS a && nameS b else nameS a && !decide (v.s = trueS) && !decide (v.s = falseS)) →
   jn (α := Bool × Bool) (fun x118 H119 => H1 = H119 ∧ x118.1 = (v.n == 0 && namesS v.s) ∧ (x118.1 = true → x118.2 = decide (v.l.length ≤ 8)))
    (fun J117 => dr H1 fun Hs121 =>
    ldI Hs121 .i64 ((b1, 0).1, (b1, 0).2 + 1) fun x123 =>
    ldL Hs121 ((b1, 0).1, (b1, 0).2 + 3) fun x125 =>
    ift ((x123 : Int) == 0)
    (Qbx C a (fun r129 H130 =>
    Heap.le Hs121 H130 ∧
    ift r129
    (ift two
    (Qbx C b (fun r134 H135 =>
    Heap.le Hs121 H135 ∧
    ift r134
    (J117 (true, (decide (((Sl.len x125 : Int) : Int) ≤ 8))) H135)
    (ift (!two)
    (ldS Hs121 ((b1, 0).1, (b1, 0).2 + 2) fun x138 =>
    ift (!(x138 == ([116, 114, 117, 101] : Str)))
    (ldS Hs121 ((b1, 0).1, (b1, 0).2 + 2) fun x141 =>
    J117 ((!(x141 == ([102, 97, 108, 115, 101] : Str))), (decide (((Sl.len x125 : Int) : Int) ≤ 8))) H135)
    (J117 (false, (decide (((Sl.len x125 : Int) : Int) ≤ 8))) H135))
    (J117 (false, (decide (((Sl.len x125 : Int) : Int) ≤ 8))) H135))) H130)
    (ift (!two)
    (ldS Hs121 ((b1, 0).1, (b1, 0).2 + 2) fun x144 =>
    ift (!(x144 == ([116, 114, 117, 101] : Str)))
    (ldS Hs121 ((b1, 0).1, (b1, 0).2 + 2) fun x147 =>
    J117 ((!(x147 == ([102, 97, 108, 115, 101] : Str))), (decide (((Sl.len x125 : Int) : Int) ≤ 8))) H130)
    (J117 (false, (decide (((Sl.len x125 : Int) : Int) ≤ 8))) H130))
    (J117 (false, (decide (((Sl.len x125 : Int) : Int) ≤ 8))) H130)))
    (J117 (false, (decide (((Sl.len x125 : Int) : Int) ≤ 8))) H130)) H1)
    (J117 (false, (decide (((Sl.len x125 : Int) : Int) ≤ 8))) H1)) := by
   intro a b two ha hb hns
   refine ⟨fun y H' => H1 = H' ∧ y = ((v.n == 0 && namesS v.s), decide (v.l.length ≤ 8)), ?_, ?_⟩
   ·refine ⟨H1, Heap.le.refl _, bxN hb1 (bxL hb1 ?_)⟩
    rw [hn, ed]
    refine ift.of (fun h => ?_) (fun h => ⟨rfl, by rw [h]; rfl⟩)
    refine Qgi ha ⟨Heap.le.refl _, ?_⟩
    rw [h, hns]
    refine ift.of (fun h2 => ?_) (fun h2 => ⟨rfl, by rw [h2]; cases two <;> rfl⟩)
    rw [h2]
    have eq : ∀ t : Str, (v.s == t) = decide (v.s = t) := fun t => by rw [Bool.eq_iff_iff]; simp
    cases two with
    | true =>
     refine Qs rfl ?_
     refine Qgi hb ⟨Heap.le.refl _, ?_⟩
     exact ift.of (fun h3 => ⟨rfl, by rw [h3]; rfl⟩) (fun h3 => Qi rfl ⟨rfl, by rw [h3]; rfl⟩)
    | false =>
     refine Qi rfl (Qs rfl ?_)
     refine bxS hb1 ?_
     rw [ht, show (v.s == ([116, 114, 117, 101] : Str)) = decide (v.s = trueS) from eq _]
     refine ift.of (fun h3 => ?_) (fun h3 => ⟨rfl, ?_⟩)
     ·refine bxS hb1 ⟨rfl, ?_⟩
      rw [ht, show (v.s == ([102, 97, 108, 115, 101] : Str)) = decide (v.s = falseS) from eq _, h3]; rfl
     ·rw [h3]; rfl
   ·rintro _ _ ⟨rfl, rfl⟩
    exact ⟨rfl, rfl, fun _ => rfl⟩
  have hc := QlN v.s
  cases hcd : cutD v.s with
  | none =>
   rw [hcd] at hc
   exact key _ _ _ hbs (by simp) hc
  | some p =>
   obtain ⟨a, b⟩ := p
   rw [hcd] at hc
   have hlen : a.length ≤ v.s.length ∧ b.length ≤ v.s.length := by
    by_cases hm : (46 : UInt8) ∈ v.s
    ·obtain ⟨a', b', e1, e2⟩ := Qi2 _ hm
     have := Qhz a' b' e2
     rw [← e1, hcd] at this
     injection this with this; injection this with h1 h2
     subst h1; subst h2
     rw [e1]; simp; omega
    ·rw [QhA _ hm] at hcd; cases hcd
   exact key _ _ _ (by omega) (by omega) hc
 have g6 : v.k ≠ 6 := by simpa using h
 have eo : okN v.k v.n v.s v.l.length = false := by unfold okN; rw [if_neg g1, if_neg g2, if_neg g3, if_neg g4, if_neg g5, if_neg g6]
 rw [eo]
 exact ⟨rfl, rfl, fun hh => by cases hh⟩
theorem Qdh {v : V} {x : TV} {H : Heap} {K : Int → Heap → Prop} (hv : VIs H v x) (hB : VB v) (k : K (checkV v) H) : QZ C x K H := by
 apply QZ.gh
 apply Qii
 unfold Qfi
 intro b1 n1
 have hb1 : (H.put b1 (.row (Qa.c x))) b1 = some (true, .row (Qa.c x)) := Heap.put_same ..
 have hle1 := Heap.le_put n1 (g := .row (Qa.c x)) (m := true)
 generalize H.put b1 (.row (Qa.c x)) = H1 at *
 unfold checkV at k
 refine bxV hb1 (Qiw (m := 65) (hv.le hle1) hB (by omega) fun r h0 h1 h2 => ?_)
 refine ift.of (fun h => ?_) (fun h => ?_)
 ·have h := of_decide_eq_true h
  rw [if_pos (by omega)] at k
  exact ⟨H, Gh.le hle1, k⟩
 have h := of_decide_eq_false h
 rw [if_neg (by omega)] at k
 refine bxV hb1 (Qns (hv.le hle1) hB fun g hg => ?_)
 refine ift.of (fun h => ?_) (fun h => ?_)
 ·have h : formV v = false := by simpa using h
  rw [if_pos h] at k
  exact ⟨H, Gh.le hle1, k⟩
 have hf : formV v = true := by simpa using h
 rw [if_neg (by rw [hf]; decide)] at k
 rw [hg hf]
 refine ift.of (fun h => ?_) (fun h => ?_)
 ·have h : fitsV v = false := by simpa using h
  rw [if_pos h] at k
  exact ⟨H, Gh.le hle1, k⟩
 have hf : fitsV v = true := by simpa using h
 rw [if_neg (by rw [hf]; decide)] at k
 exact ⟨H, Gh.le hle1, k⟩
end
end
section
open Go Go.Proofs
theorem Qh2 (t : Str) : vcmpS [] t = sgn 0 t.length := by
 cases t with
 | nil => rfl
 | cons c t => unfold vcmpS sgn; rw [if_pos (by simp <;> omega)]
theorem Qh3 (t : Str) : vcmpS t [] = sgn t.length 0 := by
 cases t with
 | nil => rfl
 | cons c t => unfold vcmpS sgn; rw [if_neg (by simp <;> omega), if_pos (by simp <;> omega)]
theorem QgD (a b : Int) (i : Int) : sgn (a + i) (b + i) = sgn a b := by
 unfold sgn
 by_cases h : a < b
 ·rw [if_pos h, if_pos (by omega)]
 ·rw [if_neg h, if_neg (by omega)]
  by_cases h2 : b < a
  ·rw [if_pos h2, if_pos (by omega)]
  ·rw [if_neg h2, if_neg (by omega)]
theorem Qhx (t : List V) : cmpVs [] t = sgn 0 t.length := by
 cases t with
 | nil => simp [cmpVs, sgn]
 | cons c t => simp only [cmpVs]; unfold sgn; rw [if_pos (by simp <;> omega)]
theorem Qkh (t : List V) : cmpVs t [] = sgn t.length 0 := by
 cases t with
 | nil => simp [cmpVs, sgn]
 | cons c t => simp only [cmpVs]; unfold sgn; rw [if_neg (by simp <;> omega), if_pos (by simp <;> omega)]
theorem QeP {s : Str} (h : numS s = true) (hm : isMin s = true) : isMin s.tail = false ∧ s.tail ≠ [] := by
 cases s with
 | nil => simp [isMin] at hm
 | cons c t =>
  have hc : c = 45 := by simpa [isMin] using hm
  subst hc
  cases t with
  | nil => simp [numS, unmin] at h
  | cons d u =>
   refine ⟨?_, by simp⟩
   simp only [numS, unmin, List.head?_cons, if_true, List.tail_cons, Bool.and_eq_true, List.all_cons] at h
   have hd := h.1.2.1
   unfold isMin
   simp only [List.tail_cons, List.head?_cons, Option.some.injEq, decide_eq_false_iff_not]
   rintro rfl
   simp [digC] at hd
theorem Qlv {a b : Str} (ha : isMin a = false) (hb : isMin b = false) : cmpB a b = cmpD a b := by unfold cmpB; rw [ha, hb]; rfl
theorem Qgv {s : Str} (h : numS s = true) : s ≠ [] := fun e => by subst e; simp [numS, unmin] at h
section
variable {C : Ctx} {H : Heap}
theorem Qgu {a b : Int} {K : Int → Heap → Prop} (k : K (sgn a b) H) : Qal C a b K H := by
 apply QiS
 unfold Qf9
 unfold sgn at k
 refine ift.of (fun h => ?_) (fun h => ?_)
 ·rw [if_pos (of_decide_eq_true h)] at k; exact k
 rw [if_neg (of_decide_eq_false h)] at k
 refine ift.of (fun h => ?_) (fun h => ?_)
 ·rw [if_pos (of_decide_eq_true h)] at k; exact k
 ·rw [if_neg (of_decide_eq_false h)] at k; exact k
theorem Qjn {a b : Str} {K : Int → Heap → Prop} (ha : a.length ≤ 140737488355328) (hb : b.length ≤ 140737488355328) (k : K (vcmpS a b) H) : QbE C a b K H := by
 apply Qif
 unfold Qff
 refine ⟨fun x H' => ∃ i : Nat, x = (i : Int) ∧ i ≤ a.length ∧ i ≤ b.length ∧ H = H' ∧ vcmpS a b = vcmpS (a.drop i) (b.drop i), fun x _ => a.length - x.toNat, ⟨0, rfl, Nat.zero_le _, Nat.zero_le _, rfl, rfl⟩, ?_⟩
 rintro x _ ⟨i, rfl, hi, hi2, rfl, hc⟩
 refine ift.of (fun h => ?_) (fun h => ?_)
 ·simp only [Bool.and_eq_true, decide_eq_true_eq] at h
  have h1 : i < a.length := by omega
  have h2 : i < b.length := by omega
  rw [List.drop_eq_getElem_cons h1, List.drop_eq_getElem_cons h2] at hc
  have g1 := getE h1
  have g2 := getE h2
  generalize a[i] = c at *
  generalize b[i] = d at *
  refine ⟨c, by omega, g1, d, by omega, g2, ?_⟩
  have hcl : c.toNat < 256 := c.toBitVec.isLt
  have hdl : d.toNat < 256 := d.toBitVec.isLt
  refine ift.of (fun h => ?_) (fun h => ?_)
  ·have hne : c ≠ d := fun e => by subst e; simp at h
   simp only [vcmpS, if_neg hne] at hc
   refine ⟨H, Heap.le.refl _, c, by omega, g1, d, by omega, g2, ?_⟩
   dsimp only
   rw [Qz (by omega) (by omega), Qz (by omega) (by omega)]
   refine Qgu ⟨Heap.le.refl _, ?_⟩
   rw [hc] at k; exact k
  ·have he : c = d := UInt8.toNat_inj.1 (by simp at h; omega)
   simp only [vcmpS, if_pos he] at hc
   rw [Qz (by omega) (by omega)]
   exact ⟨⟨i + 1, by omega, by omega, by omega, rfl, hc⟩, by first | omega | (dsimp only; omega)⟩
 ·simp only [Bool.and_eq_false_iff, decide_eq_false_iff_not] at h
  refine Qgu ?_
  have e : vcmpS a b = sgn a.length b.length := by
   rcases h with h | h
   ·have : i = a.length := by omega
    subst this
    rw [hc, List.drop_length, Qh2, List.length_drop]
    have := QgD 0 ((b.length - a.length : Nat) : Int) a.length
    rw [← this]; congr 1 <;> omega
   ·have : i = b.length := by omega
    subst this
    rw [hc, List.drop_length, Qh3, List.length_drop]
    have := QgD ((a.length - b.length : Nat) : Int) 0 b.length
    rw [← this]; congr 1 <;> omega
  rw [e] at k; exact k
theorem Qhc {c : UInt8} {t : Str} : ((c.toNat : Int) == 45) = isMin (c :: t) := by rw [e45]; unfold isMin; simp
theorem QkC {a b : Str} {K : Int → Heap → Prop} (ha : a.length ≤ 140737488355328) (hb : b.length ≤ 140737488355328) (na : a ≠ []) (nb : b ≠ []) (ma : isMin a = false) (mb : isMin b = false) (k : K (cmpD a b) H) : QbW C a b K H := by
 apply QfF
 unfold QdX
 cases a with
 | nil => exact absurd rfl na
 | cons c a =>
 cases b with
 | nil => exact absurd rfl nb
 | cons d b =>
 refine ⟨c, by omega, rfl, d, by omega, rfl, ?_⟩
 dsimp only
 rw [Qhc (t := a), Qhc (t := b), ma, mb]
 refine Qi rfl (Qi rfl ?_)
 unfold cmpD at k
 refine ift.of (fun h => ?_) (fun h => ?_)
 ·refine Qgu ?_
  rw [if_neg (by simp at h ⊢; omega)] at k; exact k
 ·rw [if_pos (by simp at h ⊢; omega)] at k
  exact Qjn ha hb k
theorem Qnh {a b : Str} {K : Int → Heap → Prop} (ha : a.length ≤ 140737488355328) (hb : b.length ≤ 140737488355328) (na : numS a = true) (nb : numS b = true) (k : K (cmpB a b) H) : QbW C a b K H := by
 by_cases hn : isMin a = false ∧ isMin b = false
 ·rw [Qlv hn.1 hn.2] at k
  exact QkC ha hb (Qgv na) (Qgv nb) hn.1 hn.2 k
 apply QfF
 unfold QdX
 have nea := Qgv na
 have neb := Qgv nb
 cases a with
 | nil => exact absurd rfl nea
 | cons c a =>
 cases b with
 | nil => exact absurd rfl neb
 | cons d b =>
 refine ⟨c, by omega, rfl, d, by omega, rfl, ?_⟩
 dsimp only
 rw [Qhc (t := a), Qhc (t := b)]
 unfold cmpB at k
 cases ma : isMin (c :: a) with
 | false =>
  rw [ma] at k hn
  cases mb : isMin (d :: b) with
  | false => rw [mb] at hn; exact absurd ⟨rfl, rfl⟩ hn
  | true => rw [mb] at k; exact Qs rfl (Qi rfl k)
 | true =>
  rw [ma] at k
  cases mb : isMin (d :: b) with
  | false => rw [mb] at k; exact Qs rfl (Qs rfl k)
  | true =>
   rw [mb] at k
   refine Qi rfl (Qs rfl ?_)
   obtain ⟨h1, h2⟩ := QeP na ma
   obtain ⟨h3, h4⟩ := QeP nb mb
   refine ⟨H, Heap.le.refl _, by omega, by simp only [List.length_cons]; omega, by omega, b, ?_, by omega, by simp only [List.length_cons]; omega, by omega, a, ?_, ?_⟩
   ·rw [List.take_of_length_le (by omega)]; rfl
   ·rw [List.take_of_length_le (by omega)]; rfl
   ·simp only [List.length_cons] at ha hb
    exact QkC (by omega) (by omega) h4 h2 h3 h1 ⟨Heap.le.refl _, k⟩
theorem Ql4 {l m : List V} {s t : Sl} {H : Heap} {K : Int → Heap → Prop} (hs : VRow H s l) (ht : VRow H t m) (hl : l.length ≤ 140737488355328) (hm : m.length ≤ 140737488355328)
 (ih : ∀ v ∈ l, ∀ w ∈ m, ∀ {x y : TV} {K : Int → Heap → Prop}, VIs H v x → VIs H w y → K (cmpV v w) H → Qap C x y K H) (k : K (cmpVs l m) H) : Qbv C s t K H := by
 apply QiU
 unfold Qgb
 have hsl := hs.len
 have htl := ht.len
 rw [hsl, htl]
 refine ⟨fun x H' => ∃ i : Nat, x = (i : Int) ∧ i ≤ l.length ∧ i ≤ m.length ∧ H = H' ∧ cmpVs l m = cmpVs (l.drop i) (m.drop i), fun x _ => l.length - x.toNat, ⟨0, rfl, Nat.zero_le _, Nat.zero_le _, rfl, rfl⟩, ?_⟩
 rintro x _ ⟨i, rfl, hi, hi2, rfl, hc⟩
 refine ift.of (fun h => ?_) (fun h => ?_)
 ·simp only [Bool.and_eq_true, decide_eq_true_eq] at h
  have h1 : i < l.length := by omega
  have h2 : i < m.length := by omega
  have m1 := List.getElem_mem h1
  have m2 := List.getElem_mem h2
  rw [List.drop_eq_getElem_cons h1, List.drop_eq_getElem_cons h2] at hc
  refine ⟨H, Heap.le.refl _, ?_⟩
  refine hs.ld (Heap.le.refl _) rfl h1 fun y hy => ?_
  refine ht.ld (Heap.le.refl _) rfl h2 fun z hz => ?_
  refine ih _ m1 _ m2 hy hz ⟨Heap.le.refl _, ?_⟩
  simp only [cmpVs] at hc
  refine ift.of (fun h => ?_) (fun h => ?_)
  ·rw [if_pos (by simpa using h)] at hc
   rw [hc] at k; exact k
  ·rw [if_neg (by simpa using h)] at hc
   rw [Qz (by omega) (by omega)]
   exact ⟨⟨i + 1, by omega, by omega, by omega, rfl, hc⟩, by first | omega | (dsimp only; omega)⟩
 ·simp only [Bool.and_eq_false_iff, decide_eq_false_iff_not] at h
  refine Qgu ?_
  have e : cmpVs l m = sgn l.length m.length := by
   rcases h with h | h
   ·have : i = l.length := by omega
    subst this
    rw [hc, List.drop_length, Qhx, List.length_drop]
    have := QgD 0 ((m.length - l.length : Nat) : Int) l.length
    rw [← this]; congr 1 <;> omega
   ·have : i = m.length := by omega
    subst this
    rw [hc, List.drop_length, Qkh, List.length_drop]
    have := QgD ((l.length - m.length : Nat) : Int) 0 m.length
    rw [← this]; congr 1 <;> omega
  rw [e] at k; exact k
theorem Qi1 (v w : V) : cmpV v w = if v.k ≠ w.k then sgn v.k w.k else if v.k = 3 then cmpB v.s w.s else if v.k = 4 then vcmpS v.s w.s else if v.k = 5 then cmpVs v.l w.l else if v.k = 6 then (if vcmpS v.s w.s ≠ 0 then vcmpS v.s w.s else cmpVs v.l w.l) else sgn v.n w.n := by
 obtain ⟨k, n, s, l⟩ := v
 obtain ⟨k', n', s', l'⟩ := w
 simp only [cmpV, V.k, V.n, V.s, V.l]
 rfl
theorem QnF {v w : V} {x y : TV} {H : Heap} {K : Int → Heap → Prop} (hv : VIs H v x) (hw : VIs H w y) (hB : VB v) (hB2 : VB w) (hF : formV v = true) (hF2 : formV w = true) (k : K (cmpV v w) H) : Qap C x y K H := by
 refine V.rec_ (P := fun v => ∀ {w x y H} {K : Int → Heap → Prop}, VIs H v x → VIs H w y → VB v → VB w → formV v = true → formV w = true → K (cmpV v w) H → Qap C x y K H) (fun v ih => ?_) v hv hw hB hB2 hF hF2 k
 clear hv hw hB hB2 hF hF2 k
 intro w x y H K hv hw hB hB2 hF hF2 k
 apply Qap.gh
 apply Qjy
 unfold QgO
 intro b1 n1 b3 n3
 have hb3 : ((H.put b1 (.row (Qa.c x))).put b3 (.row (Qa.c y))) b3 = some (true, .row (Qa.c y)) := Heap.put_same ..
 have hne : b1 ≠ b3 := fun e => by rw [e, Heap.put_same] at n3; cases n3
 have hb1 : ((H.put b1 (.row (Qa.c x))).put b3 (.row (Qa.c y))) b1 = some (true, .row (Qa.c x)) := by rw [Heap.put_ne _ _ _ hne, Heap.put_same]
 have hle := (Heap.le_put n1 (g := .row (Qa.c x)) (m := true)).trans (Heap.le_put n3 (g := .row (Qa.c y)) (m := true))
 generalize (H.put b1 (.row (Qa.c x))).put b3 (.row (Qa.c y)) = H1 at *
 have k' : ∃ H0, Gh C H1 H0 ∧ K (cmpV v w) H0 := ⟨H, Gh.le hle, k⟩
 have hk1 := hB.k
 have hk2 := hB2.k
 rw [Qcp, Bool.and_eq_true] at hF hF2
 rw [Qi1] at k'
 refine bxK hb1 (bxK hb3 ?_)
 rw [hv.kind, hw.kind]
 refine ift.of (fun h => ?_) (fun h => ?_)
 ·refine bxK hb1 (bxK hb3 ?_)
  rw [hv.kind, hw.kind, Qz (by omega) (by omega), Qz (by omega) (by omega)]
  refine Qgu ?_
  rw [if_pos (by simpa using h)] at k'; exact k'
 have hkk : v.k = w.k := by simpa using h
 rw [if_neg (by simp [hkk])] at k'
 have hr1 := hv.row.le hle
 have hr2 := hw.row.le hle
 have hrows : ∀ {K : Int → Heap → Prop}, K (cmpVs v.l w.l) H1 → Qbv C x.L y.L K H1 := fun k => by
  refine Ql4 hr1 hr2 hB.l hB2.l (fun p hp q hq {x' y'} {K'} hx hy kk => ih p hp hx hy (hB.ls.mem hp) (hB2.ls.mem hq) (Qcs hp hF.2) (Qcs hq hF2.2) kk) k
 refine bxK hb1 ?_
 rw [hv.kind]
 refine ift.of (fun h => ?_) (fun h => ?_)
 ·have h : v.k = 3 := by simpa using h
  rw [if_pos h] at k'
  refine bxS hb1 (bxS hb3 ?_)
  rw [hv.txt, hw.txt]
  exact Qnh hB.s hB2.s (QhG hF.1 h) (QhG hF2.1 (by omega)) k'
 rw [if_neg (by simpa using h)] at k'
 refine ift.of (fun h => ?_) (fun h => ?_)
 ·have h : v.k = 4 := by simpa using h
  rw [if_pos h] at k'
  refine bxS hb1 (bxS hb3 ?_)
  rw [hv.txt, hw.txt]
  exact Qjn hB.s hB2.s k'
 rw [if_neg (by simpa using h)] at k'
 refine ift.of (fun h => ?_) (fun h => ?_)
 ·have h : v.k = 5 := by simpa using h
  rw [if_pos h] at k'
  exact bxL hb1 (bxL hb3 (hrows k'))
 rw [if_neg (by simpa using h)] at k'
 refine ift.of (fun h => ?_) (fun h => ?_)
 ·have h : v.k = 6 := by simpa using h
  rw [if_pos h] at k'
  refine bxS hb1 (bxS hb3 ?_)
  rw [hv.txt, hw.txt]
  refine Qjn hB.s hB2.s ?_
  refine ift.of (fun h => ?_) (fun h => ?_)
  ·rw [if_pos (by simpa using h)] at k'; exact k'
  ·rw [if_neg (by simpa using h)] at k'
   exact bxL hb1 (bxL hb3 (hrows k'))
 rw [if_neg (by simpa using h)] at k'
 refine bxN hb1 (bxN hb3 ?_)
 rw [hv.num, hw.num]
 exact Qgu k'
theorem Qnp {a b : Bool} {K : Int → Heap → Prop} (k : K (lastB a b) H) : Qej C a b K H := by
 apply QiT
 unfold Qga
 unfold lastB at k
 refine ift.of (fun h => ?_) (fun h => ?_)
 ·rw [if_pos (by simpa using h)] at k; exact k
 rw [if_neg (by simpa using h)] at k
 refine ift.of (fun h => ?_) (fun h => ?_)
 ·rw [if_pos h] at k; exact k
 ·rw [if_neg (by rw [h]; decide)] at k; exact k
theorem Qi8 (v : V) : ((checkV v : Int) == 0) = mayV v := by unfold mayV; rw [Bool.eq_iff_iff]; simp
theorem Qb0 {v : V} (h : mayV v = true) : formV v = true := ((QkO v).1 h).2.1
theorem Qnu {l : List V} {v : V} (h : v ∈ l) (hv : mayV v = false) : mayR l = false := by unfold mayR; rw [List.all_eq_false]; exact ⟨v, h, by simp [hv]⟩
theorem Qjs {l : List V} {t : Sl} {H : Heap} {K : Bool → Heap → Prop} (ht : VRow H t l) (hl : l.length ≤ 140737488355328) (hB : VBs l) (hs : ∀ v ∈ l, vsize v ≤ 4611686018427387904) (k : K (mayR l) H) : Qbp C t K H := by
 apply Qjx
 unfold QgN
 rw [ht.len]
 refine ⟨fun x H' => ∃ i : Nat, x = (i : Int) ∧ i ≤ l.length ∧ H = H' ∧ (l.take i).all mayV = true, fun x _ => l.length - x.toNat, ⟨0, rfl, Nat.zero_le _, rfl, rfl⟩, ?_⟩
 rintro x _ ⟨i, rfl, hi, rfl, ha⟩
 refine ift.of (fun h => ?_) (fun h => ?_)
 ·have hlt : i < l.length := by have := of_decide_eq_true h; omega
  have hm := List.getElem_mem hlt
  refine ht.ld (Heap.le.refl _) rfl hlt fun y hy => ?_
  refine Qit hy (hB.mem hm) (hs _ hm) ?_
  rw [bne, Qi8]
  refine ift.of (fun h => ?_) (fun h => ?_)
  ·rw [Qnu hm (by simpa using h)] at k; exact k
  ·rw [Qz (by omega) (by omega)]
   refine ⟨⟨i + 1, by omega, by omega, rfl, ?_⟩, by first | omega | (dsimp only; omega)⟩
   rw [Qha hlt, ha]; simpa using h
 ·have hie : i = l.length := by have := of_decide_eq_false h; omega
  rw [hie, List.take_length] at ha
  unfold mayR at k
  rw [ha] at k; exact k
theorem Qg9 {l m : List V} {s t : Sl} {H : Heap} {K : Int → Heap → Prop} (hs : VRow H s l) (ht : VRow H t m) (hl : l.length ≤ 140737488355328) (hm : m.length ≤ 140737488355328) (hB : VBs l) (hB2 : VBs m) (hz : ∀ v ∈ l, vsize v ≤ 4611686018427387904) (hz2 : ∀ v ∈ m, vsize v ≤ 4611686018427387904) (k : K (cmpR l m) H) : Qcw C s t K H := by
 apply QgV
 unfold Qd6
 refine Qjs hs hl hB hz (Qjs ht hm hB2 hz2 ?_)
 unfold cmpR at k
 refine ift.of (fun h => ?_) (fun h => ?_)
 ·refine Qnp ?_
  rw [if_neg (by intro hh; rw [hh.1, hh.2] at h; cases h)] at k; exact k
 ·have h1 : mayR l = true ∧ mayR m = true := by simpa using h
  rw [if_pos h1] at k
  refine Ql4 hs ht hl hm (fun p hp q hq {x' y'} {K'} hx hy kk => ?_) k
  have e1 := List.all_eq_true.1 h1.1 p hp
  have e2 := List.all_eq_true.1 h1.2 q hq
  exact QnF hx hy (hB.mem hp) (hB2.mem hq) (Qb0 e1) (Qb0 e2) kk
theorem QiG : ∀ {l m : List V}, sameVs l m = true → l.length = m.length
 | [], [], _ => rfl
 | [], _ :: _, h => by simp [sameVs] at h
 | _ :: _, [], h => by simp [sameVs] at h
 | v :: l, w :: m, h => by
  simp only [sameVs, Bool.and_eq_true] at h
  have := QiG h.2
  simp [this]
theorem Qhe {l m : List V} {s t : Sl} {H : Heap} {K : Bool → Heap → Prop} (hs : VRow H s l) (ht : VRow H t m) (hl : l.length ≤ 140737488355328)
 (ih : ∀ v ∈ l, ∀ w, ∀ {x y : TV} {K : Bool → Heap → Prop}, VIs H v x → VIs H w y → w ∈ m → K (sameV v w) H → Q7 C x y K H) (k : K (sameVs l m) H) : Q1 C s t K H := by
 apply QgW
 unfold Qd7
 rw [hs.len, ht.len]
 by_cases hlm : l.length = m.length
 rotate_left
 ·refine Qs (by simp; omega) ?_
  cases hh : sameVs l m with
  | true => exact absurd (QiG hh) hlm
  | false => rw [hh] at k; exact k
 refine Qi (by simp; omega) ?_
 refine ⟨fun x H' => ∃ i : Nat, x = (i : Int) ∧ i ≤ l.length ∧ H = H' ∧ sameVs l m = sameVs (l.drop i) (m.drop i), fun x _ => l.length - x.toNat, ⟨0, rfl, Nat.zero_le _, rfl, rfl⟩, ?_⟩
 rintro x _ ⟨i, rfl, hi, rfl, ha⟩
 refine ift.of (fun h => ?_) (fun h => ?_)
 ·have h1 : i < l.length := by have := of_decide_eq_true h; omega
  have h2 : i < m.length := by omega
  have m1 := List.getElem_mem h1
  have m2 := List.getElem_mem h2
  rw [List.drop_eq_getElem_cons h1, List.drop_eq_getElem_cons h2] at ha
  simp only [sameVs] at ha
  refine ⟨H, Heap.le.refl _, ?_⟩
  refine hs.ld (Heap.le.refl _) rfl h1 fun y hy => ?_
  refine ht.ld (Heap.le.refl _) rfl h2 fun z hz => ?_
  refine ih _ m1 _ hy hz m2 ⟨Heap.le.refl _, ?_⟩
  refine ift.of (fun h => ?_) (fun h => ?_)
  ·have h : sameV l[i] m[i] = false := by simpa using h
   rw [ha, h] at k; exact k
  ·have h : sameV l[i] m[i] = true := by simpa using h
   rw [h, Bool.true_and] at ha
   rw [Qz (by omega) (by omega)]
   exact ⟨⟨i + 1, by omega, by omega, rfl, ha⟩, by first | omega | (dsimp only; omega)⟩
 ·have hie : i = l.length := by have := of_decide_eq_false h; omega
  rw [hie, List.drop_length, hlm, List.drop_length] at ha
  rw [ha] at k; exact k
theorem Ql6 (v w : V) : sameV v w = (v.k == w.k && v.n == w.n && decide (v.s = w.s) && sameVs v.l w.l) := by
 obtain ⟨k, n, s, l⟩ := v
 obtain ⟨k', n', s', l'⟩ := w
 simp only [sameV, V.k, V.n, V.s, V.l]
 rfl
theorem Qnf {v w : V} {x y : TV} {H : Heap} {K : Bool → Heap → Prop} (hv : VIs H v x) (hw : VIs H w y) (hB : VB v) (k : K (sameV v w) H) : Q7 C x y K H := by
 refine V.rec_ (P := fun v => ∀ {w x y H} {K : Bool → Heap → Prop}, VIs H v x → VIs H w y → VB v → K (sameV v w) H → Q7 C x y K H) (fun v ih => ?_) v hv hw hB k
 clear hv hw hB k
 intro w x y H K hv hw hB k
 apply Q7.gh
 apply QiP
 unfold Qf6
 intro b1 n1 b3 n3
 have hb3 : ((H.put b1 (.row (Qa.c x))).put b3 (.row (Qa.c y))) b3 = some (true, .row (Qa.c y)) := Heap.put_same ..
 have hne : b1 ≠ b3 := fun e => by rw [e, Heap.put_same] at n3; cases n3
 have hb1 : ((H.put b1 (.row (Qa.c x))).put b3 (.row (Qa.c y))) b1 = some (true, .row (Qa.c x)) := by rw [Heap.put_ne _ _ _ hne, Heap.put_same]
 have hle := (Heap.le_put n1 (g := .row (Qa.c x)) (m := true)).trans (Heap.le_put n3 (g := .row (Qa.c y)) (m := true))
 generalize (H.put b1 (.row (Qa.c x))).put b3 (.row (Qa.c y)) = H1 at *
 have k' : ∃ H0, Gh C H1 H0 ∧ K (sameV v w) H0 := ⟨H, Gh.le hle, k⟩
 rw [Ql6] at k'
 refine bxK hb1 (bxK hb3 ?_)
 rw [hv.kind, hw.kind]
 refine ⟨fun b H' => H1 = H' ∧ b = (v.k == w.k && v.n == w.n), ?_, ?_⟩
 ·refine ift.of (fun h => ?_) (fun h => ⟨rfl, by rw [h]; rfl⟩)
  refine bxN hb1 (bxN hb3 ⟨rfl, ?_⟩)
  rw [h, hv.num, hw.num]; rfl
 rintro _ _ ⟨rfl, rfl⟩
 refine ⟨fun b H' => H1 = H' ∧ b = (v.k == w.k && v.n == w.n && decide (v.s = w.s)), ?_, ?_⟩
 ·refine ift.of (fun h => ?_) (fun h => ⟨rfl, by rw [h]; rfl⟩)
  refine bxS hb1 (bxS hb3 ⟨rfl, ?_⟩)
  rw [h, hv.txt, hw.txt, Bool.true_and, Bool.eq_iff_iff]; simp
 rintro _ _ ⟨rfl, rfl⟩
 refine ⟨fun b H' => H1 = H' ∧ b = (v.k == w.k && v.n == w.n && decide (v.s = w.s) && sameVs v.l w.l), ?_, ?_⟩
 ·refine ift.of (fun h => ?_) (fun h => ⟨rfl, by rw [h]; rfl⟩)
  refine bxL hb1 (bxL hb3 ?_)
  refine Qhe (hv.row.le hle) (hw.row.le hle) hB.l (fun p hp q {x' y'} {K'} hx hy _ kk => ih p hp hx hy (hB.ls.mem hp) kk) ⟨rfl, ?_⟩
  rw [h]; rfl
 rintro _ _ ⟨rfl, rfl⟩
 exact k'
theorem Qgj {l m : List V} {s t : Sl} {H : Heap} {K : Bool → Heap → Prop} (hs : VRow H s l) (ht : VRow H t m) (hl : l.length ≤ 140737488355328) (hB : VBs l) (k : K (sameVs l m) H) : Q1 C s t K H :=
 Qhe hs ht hl (fun p hp q {x y} {K} hx hy _ kk => Qnf hx hy (hB.mem hp) kk) k
end
end
section
open Go
section
variable {H : Type} {enc : TypeId × Value → H} {P : Program} {W : World}
/-- the type of values -/
structure ValT (P : Program) (t tl : TypeId) : Prop where
 st : ∃ fs : Array Field, P.underlying t = some (.struct fs) ∧ fs.size = 4 ∧ (∃ f tk, fs[0]? = some f ∧ f.type = tk ∧ f.offset = 0 ∧ P.underlying tk = some (.int .u8) ∧ P.cellsOf tk = 1) ∧ (∃ f tk, fs[1]? = some f ∧ f.type = tk ∧ f.offset = 1 ∧ P.underlying tk = some (.int .i64) ∧ P.cellsOf tk = 1) ∧ (∃ f tk, fs[2]? = some f ∧ f.type = tk ∧ f.offset = 2 ∧ P.underlying tk = some .string ∧ P.cellsOf tk = 1) ∧ (∃ f, fs[3]? = some f ∧ f.type = tl ∧ f.offset = 3 ∧ P.cellsOf tl = 1)
 cells : P.cellsOf t = 4
 sl : P.underlying tl = some (.slice t)
end
end
section
open Go
section
variable {H : Type} {enc : TypeId × Value → H} {P : Program} {W : World}
theorem QjW {t tl : TypeId} {css : List (List Value)} {s : Sl} (hl : css.length = s.len) (hr : rdsl (heapOf W) s css.flatten)
 (ih : ∀ c ∈ css, ∃ (v : V) (x : TV), c = Qa.c x ∧ VIs (heapOf W) v x ∧ VB v) : ∃ l : List V, VRow (heapOf W) s l ∧ VBs l := by
 have key : ∀ (css : List (List Value)), (∀ c ∈ css, ∃ (v : V) (x : TV), c = Qa.c x ∧ VIs (heapOf W) v x ∧ VB v) →
  ∃ (l : List V) (xs : List TV), css.flatten = xs.flatMap Qa.c ∧ css.length = xs.length ∧ VsAre (heapOf W) l xs ∧ VBs l := by
  intro css
  induction css with
  | nil => intro _; exact ⟨[], [], rfl, rfl, trivial, trivial⟩
  | cons c css ihc =>
   intro hh
   obtain ⟨v, x, h1, h2, h3⟩ := hh c (List.mem_cons_self ..)
   obtain ⟨l, xs, g1, g2, g3, g4⟩ := ihc fun c' hc => hh c' (List.mem_cons_of_mem _ hc)
   exact ⟨v :: l, x :: xs, by rw [List.flatten_cons, List.flatMap_cons, g1, h1], by simp [g2], ⟨h2, g3⟩, ⟨h3, g4⟩⟩
 obtain ⟨l, xs, g1, g2, g3, g4⟩ := key css ih
 exact ⟨l, ⟨xs, by rw [← g1]; exact hr, by omega, g3⟩, g4⟩
theorem QnD {t tl : TypeId} (hT : ValT P t tl) (hb : 1 ≤ P.bytesOf t) : ∀ (n : Nat) {cs : List Value}, TrW P W n t cs → ∃ (v : V) (y : TV), cs = Qa.c y ∧ VIs (heapOf W) v y ∧ VB v := by
 intro n
 induction n using Nat.strongRecOn with
 | _ n ih =>
 intro cs h
 obtain ⟨fs, hu, hfs, ⟨f0, t0, a0, b0, c0, d0, e0⟩, ⟨f1, t1, a1, b1, c1, d1, e1⟩, ⟨f2, t2, a2, b2, c2, d2, e2⟩, ⟨f3, a3, b3, c3, e3⟩⟩ := hT.st
 obtain ⟨hl, m, rfl, hf⟩ := h.struct hu
 rw [hT.cells] at hl
 match cs, hl with
 | [q0, q1, q2, q3], _ =>
 have g0 := hf 0 f0 a0
 have g1 := hf 1 f1 a1
 have g2 := hf 2 f2 a2
 have g3 := hf 3 f3 a3
 rw [b0, c0, e0] at g0
 rw [b1, c1, e1] at g1
 rw [b2, c2, e2] at g2
 rw [b3, c3, e3] at g3
 simp at g0 g1 g2 g3
 obtain ⟨n0, k0, k2⟩ := g0.int d0
 obtain ⟨n1, l0, l2⟩ := g1.int d1
 obtain ⟨s2, m0, m1, m2⟩ := g2.str d2
 obtain ⟨s, css, m', hm', p0, p1, p2, p3, p4, p5, p6⟩ := g3.slice hT.sl hT.cells (by omega)
 have hmx : reachBytes = 140737488351232 := rfl
 rw [hmx] at p3 m2
 obtain ⟨l, r1, r2⟩ := QjW (t := t) (tl := tl) p4 p5 fun c hc => ih m' (by omega) (p6 c hc).2
 have hll := r1.len
 have hsl : s.len ≤ 140737488351232 := Nat.le_trans (Nat.le_mul_of_pos_right _ (by omega)) p3
 refine ⟨.mk n0 n1 s2 l, ⟨n0, n1, s2, s⟩, ?_, Qct.2 ⟨rfl, rfl, rfl, r1⟩, ⟨?_, ?_, by omega, by omega, r2⟩⟩
 ·injection k0 with k0
  injection l0 with l0
  injection m0 with m0
  injection p0 with p0
  subst k0; subst l0; subst m0; subst p0
  simp [Qa.c]
 ·simpa [Lit.wf, IntKind.min, IntKind.max, IntKind.signed, IntKind.bits] using k2
 ·simpa [Lit.wf, IntKind.min, IntKind.max, IntKind.signed, IntKind.bits] using l2
end
end
section
open Go Go.Proofs
/-- a list of rows -/
def VRows (H : Heap) (s : Sl) (ls : List (List V)) : Prop := ∃ xs : List Sl, rdsl H s (xs.map slv) ∧ s.len = xs.length ∧ xs.length = ls.length ∧ ∀ (i : Nat) (x : Sl) (l : List V), xs[i]? = some x → ls[i]? = some l → VRow H x l
theorem VRows.len {H : Heap} {s : Sl} {ls : List (List V)} (h : VRows H s ls) : s.len = ls.length := by
 obtain ⟨xs, h1, h2, h3, h4⟩ := h; omega
theorem VRows.ld {A H : Heap} {s : Sl} {ls : List (List V)} {i : Nat} {x : Int} {K : Sl → Prop} (h : VRows A s ls) (hle : A.le H) (hx : x = i) (hi : i < ls.length) (k : ∀ t, VRow A t ls[i] → K t) : ixa s x fun p => ldL H (p.1, p.2 + x.toNat * 1) K := by
 obtain ⟨xs, h1, h2, h3, h4⟩ := h
 subst hx
 rw [Int.toNat_natCast, Nat.mul_one]
 have hi2 : i < xs.length := by omega
 refine QgI h1 (by omega) (by omega) (fun e => by have := congrArg List.length e; simp at this; rw [this] at hi2; simp at hi2) fun p hp hr => ?_
 refine ⟨xs[i], QjV hle (Qce hr i _ (by simp [hi2])), k _ (h4 i _ _ (List.getElem?_eq_getElem hi2) (List.getElem?_eq_getElem hi))⟩
section
variable {H : Type} {enc : TypeId × Value → H} {P : Program} {W : World}
theorem Qny {t tl : TypeId} (hT : ValT P t tl) (hb : 1 ≤ P.bytesOf t) {m : Nat} {c : List Value} (h : TrW P W m tl c) : ∃ (s : Sl) (l : List V), c = [slv s] ∧ VRow (heapOf W) s l ∧ VBs l ∧ l.length ≤ 140737488355328 := by
 obtain ⟨s, css, m', hm', p0, p1, p2, p3, p4, p5, p6⟩ := h.slice hT.sl hT.cells (by omega)
 obtain ⟨l, r1, r2⟩ := QjW (t := t) (tl := tl) p4 p5 fun c hc => QnD hT hb m' (p6 c hc).2
 have hll := r1.len
 have hmx : reachBytes = 140737488351232 := rfl
 rw [hmx] at p3
 have hsl : s.len ≤ 140737488351232 := Nat.le_trans (Nat.le_mul_of_pos_right _ (by omega)) p3
 exact ⟨s, l, p0, r1, r2, by omega⟩
end
end
section
open Go Go.Proofs
theorem Qmg (a b : UInt8) (s t : Str) : slt (a :: s) (b :: t) = (decide (a < b) || (decide (a = b) && slt s t)) := by
 simp only [slt, Op.bytesLess]
 by_cases h : a < b
 ·simp [h]
 ·by_cases h2 : a = b
  ·subst h2; simp [h]
  ·simp [h, h2]
theorem QeS (a : Int) : sgn a a = 0 := by unfold sgn; rw [if_neg (by omega), if_neg (by omega)]
theorem Ql8 (a b : Int) : -1 ≤ sgn a b ∧ sgn a b ≤ 1 := by unfold sgn; (split; · omega); (split <;> omega)
theorem QgE {a b : Int} : sgn a b < 0 ↔ a < b := by unfold sgn; (split; · omega); (split <;> omega)
theorem Qat {a b : Int} : sgn a b = 0 ↔ a = b := by unfold sgn; (split; · omega); (split <;> omega)
theorem vslt : ∀ s t : Str, slt s t = decide (vcmpS s t < 0) ∧ (vcmpS s t = 0 ↔ s = t) ∧ -1 ≤ vcmpS s t ∧ vcmpS s t ≤ 1
 | [], [] => ⟨rfl, by simp [vcmpS], by simp [vcmpS], by simp [vcmpS]⟩
 | [], b :: t => ⟨rfl, by simp [vcmpS], by simp [vcmpS], by simp [vcmpS]⟩
 | a :: s, [] => ⟨rfl, by simp [vcmpS], by simp [vcmpS], by simp [vcmpS]⟩
 | a :: s, b :: t => by
  obtain ⟨h1, h2, h3, h4⟩ := vslt s t
  rw [Qmg, h1]
  simp only [vcmpS]
  by_cases he : a = b
  ·subst he
   have : ¬ a < a := fun h => Nat.lt_irrefl _ h
   refine ⟨by simp [this], ?_, by rw [if_pos rfl]; exact h3, by rw [if_pos rfl]; exact h4⟩
   rw [if_pos rfl, h2]; simp
  ·have hne : ¬ (a.toNat : Int) = b.toNat := fun h => he (UInt8.toNat_inj.1 (by omega))
   have hz : ¬ sgn a.toNat b.toNat = 0 := fun h => hne (Qat.1 h)
   refine ⟨?_, ?_, ?_⟩
   ·simp only [he, if_false, decide_false, Bool.false_and, Bool.or_false]
    rw [decide_eq_decide, QgE, UInt8.lt_iff_toNat_lt]; omega
   ·simp only [he, if_false, List.cons.injEq, false_and]; exact ⟨fun h => hz h, fun h => h.elim⟩
   ·rw [if_neg he]; exact Ql8 _ _
section
variable {C : Ctx} {H : Heap}
theorem QmA {a b : Int} {K : Int → Heap → Prop} (k : K (sgn a b) H) : Qbo C a b K H := by
 have nan : ∀ {a : Int} {K : Bool → Heap → Prop}, K false H → Qa3 C a K H := fun {a K} k => by
  apply QfD
  unfold QcW
  simpa using k
 apply QeV
 unfold Qch
 refine nan (nan (Qi rfl (Qi rfl ?_)))
 unfold sgn at k
 refine ift.of (fun h => ?_) (fun h => ?_)
 ·rw [if_pos (of_decide_eq_true h)] at k; exact k
 rw [if_neg (of_decide_eq_false h)] at k
 refine ift.of (fun h => ?_) (fun h => ?_)
 ·rw [if_pos (show b < a from of_decide_eq_true h)] at k; exact k
 ·rw [if_neg (show ¬ b < a from of_decide_eq_false h)] at k; exact k
theorem QlP {a b : Int} {K : Int → Heap → Prop} (k : K (sgn a b) H) : Qbn C a b K H := by
 have nan : ∀ {a : Int} {K : Bool → Heap → Prop}, K false H → Qa2 C a K H := fun {a K} k => by
  apply QfC
  unfold QcV
  simpa using k
 apply QeU
 unfold Qcg
 refine nan (nan (Qi rfl (Qi rfl ?_)))
 unfold sgn at k
 refine ift.of (fun h => ?_) (fun h => ?_)
 ·rw [if_pos (of_decide_eq_true h)] at k; exact k
 rw [if_neg (of_decide_eq_false h)] at k
 refine ift.of (fun h => ?_) (fun h => ?_)
 ·rw [if_pos (show b < a from of_decide_eq_true h)] at k; exact k
 ·rw [if_neg (show ¬ b < a from of_decide_eq_false h)] at k; exact k
theorem QmB {a b : Int} {K : Int → Heap → Prop} (k : K (sgn a b) H) : QbM C a b K H := by
 have nan : ∀ {a : Int} {K : Bool → Heap → Prop}, K false H → QbD C a K H := fun {a K} k => by
  apply QgU
  unfold Qd5
  simpa using k
 apply QfA
 unfold QcU
 refine nan (nan (Qi rfl (Qi rfl ?_)))
 unfold sgn at k
 refine ift.of (fun h => ?_) (fun h => ?_)
 ·rw [if_pos (of_decide_eq_true h)] at k; exact k
 rw [if_neg (of_decide_eq_false h)] at k
 refine ift.of (fun h => ?_) (fun h => ?_)
 ·rw [if_pos (show b < a from of_decide_eq_true h)] at k; exact k
 ·rw [if_neg (show ¬ b < a from of_decide_eq_false h)] at k; exact k
theorem Qje {a b : Str} {K : Int → Heap → Prop} (k : K (vcmpS a b) H) : QA C a b K H := by
 have nan : ∀ {a : Str} {K : Bool → Heap → Prop}, K false H → Q5 C a K H := fun {a K} k => by
  apply Qcu
  unfold Qbt
  simpa using k
 apply QbT
 unfold QaY
 obtain ⟨h1, h2, h3, h4⟩ := vslt a b
 refine nan (nan (Qi rfl (Qi rfl ?_)))
 refine ift.of (fun h => ?_) (fun h => ?_)
 ·rw [h1] at h
  have := of_decide_eq_true h
  rw [show vcmpS a b = -1 by omega] at k; exact k
 have hn : ¬ vcmpS a b < 0 := by rw [h1] at h; exact of_decide_eq_false h
 rw [h, Bool.false_or]
 refine ift.of (fun h => ?_) (fun h => ?_)
 ·have : ¬ a = b := by simpa using h
  have : ¬ vcmpS a b = 0 := fun e => this (h2.1 e)
  rw [show vcmpS a b = 1 by omega] at k; exact k
 ·have : a = b := by simpa using h
  rw [h2.2 this] at k; exact k
theorem Qm9 {b : Nat} {m : Bool} {l : List Int} {n : Nat} {K : Int → Heap → Prop} (hb : H b = some (m, .row (l.map fun x => Value.int .i64 x))) (hn : n = l.length) (hl : l.length ≤ 1000) (k : K ((l.find? fun x => x != 0).getD 0) H) : Qbu C (Sl.of (some (b, 0)) n n) K H := by
 subst hn
 apply QfB
 unfold QdW
 refine ⟨fun x H' => ∃ i : Nat, x = (i : Int) ∧ i ≤ l.length ∧ H = H' ∧ (l.find? fun x => x != 0) = ((l.drop i).find? fun x => x != 0), fun x _ => l.length - x.toNat, ⟨0, rfl, Nat.zero_le _, rfl, rfl⟩, ?_⟩
 rintro x _ ⟨i, rfl, hi, rfl, hc⟩
 refine ift.of (fun h => ?_) (fun h => ?_)
 ·have h1 : i < l.length := by have := of_decide_eq_true h; simp only [Sl.of] at this; omega
  refine ⟨(b, 0), rfl, rfl, by omega, of_decide_eq_true h, l[i], ?_, ?_⟩
  ·simp [rd, hb, GO.cells?, h1]
  rw [List.drop_eq_getElem_cons h1, List.find?_cons] at hc
  refine ift.of (fun h => ?_) (fun h => ?_)
  ·rw [h] at hc
   rw [hc] at k; exact k
  ·rw [h] at hc
   rw [Qz (by omega) (by omega)]
   exact ⟨⟨i + 1, by omega, by omega, rfl, hc⟩, by first | omega | (dsimp only; omega)⟩
 ·have : i = l.length := by have := of_decide_eq_false h; simp only [Sl.of] at this; omega
  subst this
  rw [hc, List.drop_length] at k; exact k
theorem Qcr {s p : Str} {K : Bool → Heap → Prop} (k : K (p.isPrefixOf s) H) : Qaq C s p K H := by
 apply QeX
 unfold Qcj
 exact QgH k
theorem pre45 (s : Str) : ([45] : Str).isPrefixOf s = isMin s := by
 cases s with
 | nil => rfl
 | cons c s =>
  simp only [List.isPrefixOf, isMin, List.head?_cons, Option.some.injEq, Bool.and_true]
  by_cases h : c = 45
  ·subst h; rfl
  ·have h2 : ¬ (45 : UInt8) = c := fun e => h e.symm
   simp [h, h2]
theorem or2 (a b : Int) : (([a, b].find? fun x => x != 0).getD 0) = if a ≠ 0 then a else b := by
 by_cases h : a = 0
 ·subst h
  by_cases hb : b = 0
  ·subst hb; rfl
  ·simp [hb]
 ·simp [h]
theorem or3 (a b c : Int) : (([a, b, c].find? fun x => x != 0).getD 0) = if a ≠ 0 then a else if b ≠ 0 then b else c := by
 by_cases h : a = 0
 ·subst h
  have := or2 b c
  simpa using this
 ·simp [h]
theorem QjP {a b : Str} {K : Int → Heap → Prop} (ma : isMin a = false) (mb : isMin b = false) (k : K (cmpD a b) H) : Qaa C a b K H := by
 apply Qaa.gh
 apply QfK
 unfold QdY
 refine Qcr (Qcr ?_)
 rw [pre45, pre45, ma, mb]
 refine Qi rfl (Qi rfl (Qi rfl ?_))
 refine QmB (Qje ?_)
 intro c hc
 refine Qm9 (l := [sgn a.length b.length, vcmpS a b]) (Heap.put_same ..) rfl (by simp) ?_
 refine ⟨H, Gh.le (Heap.le_put hc), ?_⟩
 rw [or2]
 unfold cmpD at k
 by_cases h : a.length = b.length
 ·rw [if_pos h] at k
  rw [if_neg (by rw [h, QeS]; simp)]; exact k
 ·rw [if_neg h] at k
  rw [if_pos (fun e => h (by have := Qat.1 e; omega))]; exact k
theorem Qmz {a b : Str} {K : Int → Heap → Prop} (na : numS a = true) (nb : numS b = true) (k : K (cmpB a b) H) : Qaa C a b K H := by
 by_cases hn : isMin a = false ∧ isMin b = false
 ·rw [Qlv hn.1 hn.2] at k; exact QjP hn.1 hn.2 k
 apply QfK
 unfold QdY
 refine Qcr (Qcr ?_)
 rw [pre45, pre45]
 unfold cmpB at k
 refine ift.of (fun h => ?_) (fun h => ?_)
 ·obtain ⟨h1, h2⟩ := Bool.and_eq_true_iff.1 h
  rw [if_pos h1, if_pos h2] at k
  have la : 1 ≤ a.length := by have := Qgv na; cases a <;> simp_all
  have lb : 1 ≤ b.length := by have := Qgv nb; cases b <;> simp_all
  refine ⟨H, Heap.le.refl _, by omega, by omega, by omega, _, rfl, by omega, by omega, by omega, _, rfl, ?_⟩
  have ea : (a.take (a.length : Int).toNat).drop (1 : Int).toNat = a.tail := by simp
  have eb : (b.take (b.length : Int).toNat).drop (1 : Int).toNat = b.tail := by simp
  rw [ea, eb]
  exact QjP (QeP nb h2).1 (QeP na h1).1 ⟨Heap.le.refl _, k⟩
 refine ift.of (fun h1 => ?_) (fun h1 => ?_)
 ·rw [if_pos h1] at k
  have h2 : isMin b = false := by rw [h1] at h; simpa using h
  rw [if_neg (by rw [h2]; simp)] at k; exact k
 rw [if_neg (by rw [h1]; simp)] at k
 refine ift.of (fun h2 => ?_) (fun h2 => ?_)
 ·rw [if_pos h2] at k; exact k
 ·exact absurd ⟨h1, h2⟩ hn
theorem QmC {a b : Bool} {K : Int → Heap → Prop} (k : K (lastB a b) H) : Qek C a b K H := by
 apply QiX
 unfold Qge
 unfold lastB at k
 refine ift.of (fun h => ?_) (fun h => ?_)
 ·rw [if_pos (by simpa using h)] at k; exact k
 rw [if_neg (by simpa using h)] at k
 refine ift.of (fun h => ?_) (fun h => ?_)
 ·rw [if_pos h] at k; exact k
 ·rw [if_neg (by rw [h]; decide)] at k; exact k
theorem Qnt {v : V} {x : TV} {K : Bool → Heap → Prop} (hv : VIs H v x) (hB : VB v) (k : K (!mayV v) H) : Qas C x K H := by
 apply Qas.gh
 apply Qik
 unfold Qfk
 intro c hc
 have hle := Heap.le_put hc (g := .row (Qa.c x)) (m := true)
 refine bxV (Heap.put_same ..) ?_
 refine Qdh (hv.le hle) hB ⟨H, Gh.le hle, ?_⟩
 rw [bne, Qi8]; exact k
/-- a function that is asked of each value -/
theorem QlF {l : List V} {s : Sl} {f : Value} {φ : V → Bool} {K : Int → Heap → Prop} (hs : VRow H s l) (hl : l.length ≤ 140737488355328)
 (hf : ∀ v x, v ∈ l → VIs H v x → ∀ Φ : Value → Heap → Prop, Φ (.bool (φ v)) H → callU Tryz.prog C f [.agg (Qa.c x).toArray] H Φ)
 (k : ∀ i : Int, (0 ≤ i ↔ l.any φ = true) → K i H) : Qw C s f K H := by
 apply QaR
 unfold QU
 rw [hs.len]
 refine ⟨fun x H' => ∃ i : Nat, x = (i : Int) ∧ i ≤ l.length ∧ H = H' ∧ (l.take i).any φ = false, fun x _ => l.length - x.toNat, ⟨0, rfl, Nat.zero_le _, rfl, rfl⟩, ?_⟩
 rintro x _ ⟨i, rfl, hi, rfl, ha⟩
 refine ift.of (fun h => ?_) (fun h => ?_)
 ·have hlt : i < l.length := by have := of_decide_eq_true h; omega
  have hm := List.getElem_mem hlt
  refine hs.ld (Heap.le.refl _) rfl hlt fun y hy => ?_
  refine hf _ y hm hy _ ⟨_, rfl, ?_⟩
  refine ift.of (fun h => ?_) (fun h => ?_)
  ·exact k _ ⟨fun _ => List.any_eq_true.2 ⟨_, hm, h⟩, fun _ => by omega⟩
  ·rw [Qz (by omega) (by omega)]
   refine ⟨⟨i + 1, by omega, by omega, rfl, ?_⟩, by first | omega | (dsimp only; omega)⟩
   rw [List.take_add_one, List.getElem?_eq_getElem hlt, Option.toList_some, List.any_append, ha]; simp [h]
 ·have hie : i = l.length := by have := of_decide_eq_false h; omega
  rw [hie, List.take_length] at ha
  exact k _ ⟨fun h => by omega, fun h => by rw [h] at ha; cases ha⟩
theorem QjE {l : List V} {s : Sl} {f : Value} {φ : V → Bool} {K : Bool → Heap → Prop} (hs : VRow H s l) (hl : l.length ≤ 140737488355328)
 (hf : ∀ v x, v ∈ l → VIs H v x → ∀ Φ : Value → Heap → Prop, Φ (.bool (φ v)) H → callU Tryz.prog C f [.agg (Qa.c x).toArray] H Φ)
 (k : K (l.any φ) H) : Qt C s f K H := by
 apply Qav
 unfold QJ
 refine QlF hs hl hf fun i hi => ?_
 have : decide (i ≥ 0) = l.any φ := by
  rw [Bool.eq_iff_iff, decide_eq_true_eq]; exact hi
 rw [this]; exact k
theorem QlQ {l : List V} {s : Sl} {K : Bool → Heap → Prop} (hs : VRow H s l) (hl : l.length ≤ 140737488355328) (hB : VBs l) (k : K (mayR l) H) : QdI C s K H := by
 apply QjB
 unfold QgR
 refine QjE (φ := fun v => !mayV v) hs hl (fun v x hv hx Φ hΦ => ⟨_, [], [], rfl, Qir, ?_⟩) ?_
 ·have h : Qas C x (fun r H2 => Φ (.bool r) H2) H := Qnt hx (hB.mem hv) hΦ
  exact Spec.mono h fun v H2 ⟨r, hv, h⟩ => by rw [hv]; exact h
 ·have : (!(l.any fun v => !mayV v)) = mayR l := by unfold mayR; rw [List.not_any_eq_all_not]; simp
  rw [this]; exact k
/-- rows, value by value -/
theorem Qki {l m : List V} {s t : Sl} {f : Value} {K : Int → Heap → Prop} (hs : VRow H s l) (ht : VRow H t m) (hl : l.length ≤ 140737488355328) (hm : m.length ≤ 140737488355328)
 (hf : ∀ v x w y, v ∈ l → w ∈ m → ∀ A : Heap, H.le A → VIs A v x → VIs A w y → ∀ Φ : Value → Heap → Prop, Φ (.int .i64 (cmpV v w)) A → callU Tryz.prog C f [.agg (Qa.c x).toArray, .agg (Qa.c y).toArray] A Φ)
 (k : K (cmpVs l m) H) : Qe C s t f K H := by
 apply Qe.gh
 apply QK
 unfold Qq
 rw [hs.len, ht.len]
 refine ⟨fun x A => ∃ i : Nat, x = (i : Int) ∧ i ≤ l.length ∧ i ≤ m.length ∧ H.le A ∧ cmpVs l m = cmpVs (l.drop i) (m.drop i), fun x _ => l.length - x.toNat, ⟨0, rfl, Nat.zero_le _, Nat.zero_le _, Heap.le.refl _, rfl⟩, ?_⟩
 rintro x A ⟨i, rfl, hi, hi2, hA, hc⟩
 refine ift.of (fun h => ?_) (fun h => ?_)
 ·have h1 : i < l.length := by have := of_decide_eq_true h; omega
  have m1 := List.getElem_mem h1
  refine hs.ld hA rfl h1 fun y hy => ?_
  intro b1 n1
  have hle1 := Heap.le_put n1 (g := .row (Qa.c Qa.zero)) (m := true)
  refine ⟨_, Heap.put_same .., by simp [Qa.c], ?_⟩
  have e1 : ∀ z : TV, splice (Qa.c Qa.zero) 0 (Qa.c z) = Qa.c z := fun z => by simp [splice, Qa.c]
  dsimp only
  rw [e1, Heap.put_put]
  have hle1 := Heap.le_put n1 (g := .row (Qa.c y)) (m := true)
  refine ift.of (fun h => ?_) (fun h => ?_)
  ·have h2 : i = m.length := by have := of_decide_eq_true h; omega
   refine ⟨H, Gh.le (hA.trans hle1), ?_⟩
   subst h2
   rw [hc, List.drop_length, List.drop_eq_getElem_cons h1] at k; exact k
  ·have h2 : i < m.length := by have := of_decide_eq_false h; omega
   have m2 := List.getElem_mem h2
   rw [List.drop_eq_getElem_cons h1, List.drop_eq_getElem_cons h2] at hc
   refine ht.ld (hA.trans hle1) rfl h2 fun z hz => ?_
   intro b2 n2
   refine ⟨_, Heap.put_same .., by simp [Qa.c], ?_⟩
   dsimp only
   rw [e1, Heap.put_put]
   have hle2 := Heap.le_put n2 (g := .row (Qa.c z)) (m := true)
   have hne : b1 ≠ b2 := fun e => by rw [← e, Heap.put_same] at n2; cases n2
   refine bxV (m := true) (by rw [Heap.put_ne _ _ _ hne, Heap.put_same]) (bxV (m := true) (Heap.put_same ..) ?_)
   have hle := (hA.trans hle1).trans hle2
   refine hf _ y _ z m1 m2 _ hle (hy.le hle) (hz.le hle) _ ⟨_, rfl, ?_⟩
   simp only [cmpVs] at hc
   refine ift.of (fun h => ?_) (fun h => ?_)
   ·rw [if_pos (by simpa using h)] at hc
    rw [hc] at k; exact ⟨H, Gh.le hle, k⟩
   ·rw [if_neg (by simpa using h)] at hc
    rw [Qz (by omega) (by omega)]
    exact ⟨⟨i + 1, by omega, by omega, by omega, hle, hc⟩, by first | omega | (dsimp only; omega)⟩
 ·have h1 : i = l.length := by have := of_decide_eq_false h; omega
  subst h1
  rw [hc, List.drop_length, Qhx, List.length_drop] at k
  refine ift.of (fun h => ?_) (fun h => ?_)
  ·have := of_decide_eq_true h
   rw [show sgn 0 ((m.length - l.length : Nat) : Int) = -1 by unfold sgn; rw [if_pos (by omega)]] at k
   exact ⟨H, Gh.le hA, k⟩
  ·have := of_decide_eq_false h
   rw [show sgn 0 ((m.length - l.length : Nat) : Int) = 0 by rw [Qat]; omega] at k
   exact ⟨H, Gh.le hA, k⟩
theorem QjS {l m : List V} {s t : Sl} {K : Int → Heap → Prop} (hs : VRow H s l) (ht : VRow H t m) (hl : l.length ≤ 140737488355328) (hm : m.length ≤ 140737488355328)
 (ih : ∀ v ∈ l, ∀ w ∈ m, ∀ {A : Heap} {x y : TV} {K : Int → Heap → Prop}, VIs A v x → VIs A w y → K (cmpV v w) A → QC C x y K A) (k : K (cmpVs l m) H) : QbZ C s t K H := by
 apply QiZ
 unfold Qgg
 refine Qki hs ht hl hm (fun v x w y hv hw A hA hx hy Φ hΦ => ⟨_, [], [], rfl, QhP, ?_⟩) k
 have h : QaE C x y (fun r H2 => Φ (.int .i64 r) H2) A := by
  apply QaE.gh
  apply Qhs
  unfold QeK
  intro b1 n1 b3 n3
  have hb3 : ((A.put b1 (.row (Qa.c x))).put b3 (.row (Qa.c y))) b3 = some (true, .row (Qa.c y)) := Heap.put_same ..
  have hne : b1 ≠ b3 := fun e => by rw [e, Heap.put_same] at n3; cases n3
  have hb1 : ((A.put b1 (.row (Qa.c x))).put b3 (.row (Qa.c y))) b1 = some (true, .row (Qa.c x)) := by rw [Heap.put_ne _ _ _ hne, Heap.put_same]
  have hle := (Heap.le_put n1 (g := .row (Qa.c x)) (m := true)).trans (Heap.le_put n3 (g := .row (Qa.c y)) (m := true))
  generalize (A.put b1 (.row (Qa.c x))).put b3 (.row (Qa.c y)) = B at *
  refine bxV hb1 (bxV hb3 ?_)
  exact ih v hv w hw (hx.le hle) (hy.le hle) ⟨A, Gh.le hle, hΦ⟩
 exact Spec.mono h fun v H2 ⟨r, hv, h⟩ => by rw [hv]; exact h
theorem Qcz {k n : Int} {s : Str} {m : Nat} (h : okN k n s m = true) : (k = 1 ∧ s = [] ∧ m = 0) ∨ (k = 2 ∧ s = [] ∧ m = 0) ∨ (k = 3 ∧ n = 0 ∧ m = 0) ∨ (k = 4 ∧ n = 0 ∧ m = 0) ∨ (k = 5 ∧ n = 0 ∧ s = []) ∨ (k = 6 ∧ n = 0) := by
 unfold okN at h
 split at h
 ·rename_i e
  simp only [Bool.and_eq_true, decide_eq_true_eq, List.isEmpty_iff] at h
  exact .inl ⟨e, h.1.2, h.2⟩
 split at h
 ·rename_i e
  simp only [Bool.and_eq_true, decide_eq_true_eq, List.isEmpty_iff] at h
  exact .inr (.inl ⟨e, h.1, h.2⟩)
 split at h
 ·rename_i e
  simp only [Bool.and_eq_true, decide_eq_true_eq, beq_iff_eq] at h
  exact .inr (.inr (.inl ⟨e, h.1.2, h.2⟩))
 split at h
 ·rename_i e
  simp only [Bool.and_eq_true, decide_eq_true_eq, beq_iff_eq] at h
  exact .inr (.inr (.inr (.inl ⟨e, h.1, h.2⟩)))
 split at h
 ·rename_i e
  simp only [Bool.and_eq_true, decide_eq_true_eq, beq_iff_eq, List.isEmpty_iff] at h
  exact .inr (.inr (.inr (.inr (.inl ⟨e, h.1.1, h.1.2⟩))))
 split at h
 ·rename_i e
  simp only [Bool.and_eq_true, decide_eq_true_eq, beq_iff_eq] at h
  exact .inr (.inr (.inr (.inr (.inr ⟨e, h.1⟩))))
 ·cases h
theorem Qnw {v w : V} {x y : TV} {H : Heap} {K : Int → Heap → Prop} (hv : VIs H v x) (hw : VIs H w y) (hB : VB v) (hB2 : VB w) (hF : formV v = true) (hF2 : formV w = true) (k : K (cmpV v w) H) : QC C x y K H := by
 refine V.rec_ (P := fun v => ∀ {w x y H} {K : Int → Heap → Prop}, VIs H v x → VIs H w y → VB v → VB w → formV v = true → formV w = true → K (cmpV v w) H → QC C x y K H) (fun v ih => ?_) v hv hw hB hB2 hF hF2 k
 clear hv hw hB hB2 hF hF2 k
 intro w x y H K hv hw hB hB2 hF hF2 k
 apply QC.gh
 apply Qgs
 unfold Qdz
 intro b1 n1 b3 n3
 have hb3 : ((H.put b1 (.row (Qa.c x))).put b3 (.row (Qa.c y))) b3 = some (true, .row (Qa.c y)) := Heap.put_same ..
 have hne : b1 ≠ b3 := fun e => by rw [e, Heap.put_same] at n3; cases n3
 have hb1 : ((H.put b1 (.row (Qa.c x))).put b3 (.row (Qa.c y))) b1 = some (true, .row (Qa.c x)) := by rw [Heap.put_ne _ _ _ hne, Heap.put_same]
 have hle := (Heap.le_put n1 (g := .row (Qa.c x)) (m := true)).trans (Heap.le_put n3 (g := .row (Qa.c y)) (m := true))
 generalize (H.put b1 (.row (Qa.c x))).put b3 (.row (Qa.c y)) = H1 at *
 have k' : ∃ H0, Gh C H1 H0 ∧ K (cmpV v w) H0 := ⟨H, Gh.le hle, k⟩
 rw [Qcp, Bool.and_eq_true] at hF hF2
 rw [Qi1] at k'
 refine bxK hb1 (bxK hb3 ?_)
 rw [hv.kind, hw.kind]
 refine QmA ?_
 refine ift.of (fun h => ?_) (fun h => ?_)
 ·rw [if_pos (fun e => by rw [e, QeS] at h; simp at h)] at k'; exact k'
 have hkk : v.k = w.k := Qat.1 (by simpa using h)
 rw [if_neg (by simp [hkk])] at k'
 have hr1 := hv.row.le hle
 have hr2 := hw.row.le hle
 refine bxK hb1 ?_
 rw [hv.kind]
 refine ift.of (fun h => ?_) (fun h3 => ?_)
 ·have h : v.k = 3 := by simpa using h
  rw [if_pos h] at k'
  refine bxS hb1 (bxS hb3 ?_)
  rw [hv.txt, hw.txt]
  exact Qmz (QhG hF.1 h) (QhG hF2.1 (by omega)) k'
 have h3 : ¬ v.k = 3 := by simpa using h3
 rw [if_neg h3] at k'
 refine ift.of (fun h => ?_) (fun h4 => ?_)
 ·have h : v.k = 4 := by simpa using h
  rw [if_pos h] at k'
  refine bxS hb1 (bxS hb3 ?_)
  rw [hv.txt, hw.txt]
  exact Qje k'
 have h4 : ¬ v.k = 4 := by simpa using h4
 rw [if_neg h4] at k'
 refine ⟨H1, Heap.le.refl _, ?_⟩
 refine bxN hb1 (bxN hb3 (bxS hb1 (bxS hb3 (bxL hb1 (bxL hb3 ?_)))))
 rw [hv.num, hw.num, hv.txt, hw.txt]
 refine QlP ⟨Heap.le.refl _, Qje ⟨Heap.le.refl _, ?_⟩⟩
 refine QjS hr1 hr2 hB.l hB2.l (fun p hp q hq {A x' y'} {K'} hx hy kk => ih p hp hx hy (hB.ls.mem hp) (hB2.ls.mem hq) (Qcs hp hF.2) (Qcs hq hF2.2) kk) ⟨Heap.le.refl _, ?_⟩
 intro b5 n5
 have hle5 := Heap.le_put n5 (g := .row [Value.int .i64 (sgn v.n w.n), .int .i64 (vcmpS v.s w.s), .int .i64 (cmpVs v.l w.l)]) (m := true)
 refine ⟨hle5, ?_⟩
 refine Qm9 (l := [sgn v.n w.n, vcmpS v.s w.s, cmpVs v.l w.l]) (Heap.put_same ..) rfl (by simp) ⟨hle5, ?_⟩
 rw [or3]
 obtain ⟨H0, hg, hk⟩ := k'
 refine ⟨H0, (Gh.le hle5).trans hg, ?_⟩
 rcases Qcz hF.1 with ⟨e, e1, e2⟩ | ⟨e, e1, e2⟩ | ⟨e, _⟩ | ⟨e, _⟩ | ⟨e, e1, e2⟩ | ⟨e, e1⟩
 ·rcases Qcz hF2.1 with ⟨f, f1, f2⟩ | ⟨f, _⟩ | ⟨f, _⟩ | ⟨f, _⟩ | ⟨f, _⟩ | ⟨f, _⟩ <;> try (exfalso; omega)
  rw [if_neg (by omega), if_neg (by omega)] at hk
  have l1 := List.length_eq_zero_iff.1 e2
  have l2 := List.length_eq_zero_iff.1 f2
  rw [e1, f1, l1, l2]
  split
  ·exact hk
  ·rename_i hz
   have : sgn v.n w.n = 0 := by omega
   rw [this] at hk
   simpa [vcmpS, cmpVs] using hk
 ·rcases Qcz hF2.1 with ⟨f, _⟩ | ⟨f, f1, f2⟩ | ⟨f, _⟩ | ⟨f, _⟩ | ⟨f, _⟩ | ⟨f, _⟩ <;> try (exfalso; omega)
  rw [if_neg (by omega), if_neg (by omega)] at hk
  have l1 := List.length_eq_zero_iff.1 e2
  have l2 := List.length_eq_zero_iff.1 f2
  rw [e1, f1, l1, l2]
  split
  ·exact hk
  ·rename_i hz
   have : sgn v.n w.n = 0 := by omega
   rw [this] at hk
   simpa [vcmpS, cmpVs] using hk
 ·exact absurd e h3
 ·exact absurd e h4
 ·rcases Qcz hF2.1 with ⟨f, _⟩ | ⟨f, _⟩ | ⟨f, _⟩ | ⟨f, _⟩ | ⟨f, f1, f2⟩ | ⟨f, _⟩ <;> try (exfalso; omega)
  rw [if_pos e] at hk
  rw [e1, f1, e2, f2, QeS]
  simpa [vcmpS] using hk
 ·rcases Qcz hF2.1 with ⟨f, _⟩ | ⟨f, _⟩ | ⟨f, _⟩ | ⟨f, _⟩ | ⟨f, _⟩ | ⟨f, f1⟩ <;> try (exfalso; omega)
  rw [if_neg (by omega), if_pos e] at hk
  rw [e1, f1, QeS]
  simpa using hk
theorem QmD {l m : List V} {s t : Sl} {K : Int → Heap → Prop} (hs : VRow H s l) (ht : VRow H t m) (hl : l.length ≤ 140737488355328) (hm : m.length ≤ 140737488355328) (hB : VBs l) (hB2 : VBs m) (hF : mayR l = true) (hF2 : mayR m = true) (k : K (cmpVs l m) H) : QbZ C s t K H :=
 QjS hs ht hl hm (fun p hp q hq {A x' y'} {K'} hx hy kk => Qnw hx hy (hB.mem hp) (hB2.mem hq) (Qb0 (List.all_eq_true.1 hF p hp)) (Qb0 (List.all_eq_true.1 hF2 q hq)) kk) k
theorem QhQ {l m : List V} {s t : Sl} {K : Int → Heap → Prop} (hs : VRow H s l) (ht : VRow H t m) (hl : l.length ≤ 140737488355328) (hm : m.length ≤ 140737488355328) (hB : VBs l) (hB2 : VBs m) (k : K (cmpR l m) H) : QbJ C s t K H := by
 apply Qg4
 unfold Qef
 refine QlQ hs hl hB (QlQ ht hm hB2 ?_)
 unfold cmpR at k
 refine ift.of (fun h => ?_) (fun h => ?_)
 ·refine QmC ?_
  rw [if_neg (by intro hh; rw [hh.1, hh.2] at h; cases h)] at k; exact k
 ·have h1 : mayR l = true ∧ mayR m = true := by simpa using h
  rw [if_pos h1] at k
  exact QmD hs ht hl hm hB hB2 h1.1 h1.2 k
end
end
end Sx
end
