/-
  Texts of this family, one behind the other: Sh2, Sh, ValQ, ValU, ValP1, ValP2, ValP3, ValP4.
-/
import Derived.Test.YtcachkhmjjomkaaGreatDoorAO2
noncomputable section
set_option linter.unusedVariables false
set_option linter.unusedSimpArgs false
set_option maxRecDepth 10000
namespace Sx
section
set_option maxRecDepth 100000
open Go Go.Proofs
def Qx (C : Ctx) (p_s : Sl) (p_del : Value) (K : Sl → Heap → Prop) (H : Heap) : Prop :=
 QD C p_s p_del (fun r1 H2 =>
 ift ((r1 : Int) == (-1))
 (K p_s H2)
 (lp (α := Int × Int) (r1, (w .i64 (r1 + 1))) H2 (fun x4 J5 H6 =>
 ift (decide ((x4.2 : Int) < (Sl.len p_s : Int)))
 (jn (α := Int) (fun x9 H10 =>
 J5 (x9, (w .i64 (x4.2 + 1))) H10)
 (fun J8 => ixa p_s x4.2 fun p12 =>
 ldT H6 Qa.c (p12.1, p12.2 + (x4.2 : Int).toNat * 2) fun x17 =>
 nw (Qa.c Qa.zero) (fun b19 H20 =>
 stT (b19, 0) (Qa.c x17) (fun H21 =>
 ldT H21 Qa.c (b19, 0) fun x22 =>
 callU Tryz.prog C p_del [.agg (Qa.c x22).toArray] H21 (fun v H25 => ∃ (r24 : Bool), v = .bool r24 ∧
 ift (!r24)
 (ldT H25 Qa.c (b19, 0) fun x27 =>
 ixa p_s x4.1 fun p29 =>
 stT (p29.1, p29.2 + (x4.1 : Int).toNat * 2) (Qa.c x27) (fun H34 =>
 J8 (w .i64 (x4.1 + 1)) H34) H25)
 (J8 x4.1 H25))) H20) H6))
 (slL p_s x4.1 (Sl.len p_s : Int) (Sl.cap p_s : Int) 2 fun t35 =>
 clr (Qa.c Qa.zero) t35 (fun H41 =>
 slL p_s 0 x4.1 (Sl.cap p_s : Int) 2 fun t42 =>
 K t42 H41) H6)))) H
theorem QZ (C p_s p_del K H) (h : Qx C p_s p_del K H) : Qj C p_s p_del K H := by
 refine Ye Tryz.func36 rfl Tryz.ntmps36 [(0, slv p_s), (1, p_del)] (Zo (Za (GL.nil (Zo (Zm (Zm (Zc h QaX ?_)))))))
 rintro _ H2 ⟨r1, rfl, h⟩
 refine Za (GL.nil (GC.seq (Zo (Zm (Zi (.bool ((r1 : Int) == (-1))) (GL.nil (Yd h (fun u3 h => ?_) fun u3 h => ?_)))))))
 refine Zo (Zm (Za (GL.nil ?_)))
 exact Y1 I3 ⟨p_s, rfl, h⟩
 refine GC.skip (GC.seq (Zo (Zm (Zi (.int .i64 (w .i64 (r1 + 1))) (Za (GL.nil (GC.block (Yp h (fun x4 => [(5, .int .i64 x4.1), (6, .int .i64 x4.2), (0, slv p_s), (1, p_del)]) ?_))))))))
 intro x4 H6 J5 h
 refine GC.seq (Zo (Zm (Zm (Zq (Zi (.bool (decide ((x4.2 : Int) < (Sl.len p_s : Int)))) (GL.nil (Yd h (fun u7 h => ?_) fun u7 h => ?_)))))))
 refine GC.skip ?_
 obtain ⟨J8, h, hR11⟩ := h
 refine GC.join (α := Int) J8 (fun x9 => [(5, .int .i64 x9), (0, slv p_s), (1, p_del), (6, .int .i64 x4.2)]) ?_ ?_
 refine GC.block (Zo (Zm (Zm (Yx h fun p12 h => ?_))))
 obtain ⟨x17, v18, h⟩ := h
 refine Zv (OV.loadT rfl rfl rfl v18) (GL.alloc (cs := Qa.c Qa.zero) h trivial rfl rfl rfl ?_)
 intro b19 H20 h
 refine GL.storeT (p := (b19, 0)) (vs := Qa.c x17) h trivial rfl rfl rfl rfl ?_
 intro H21 h
 refine GL.nil (Zo (Zm ?_))
 obtain ⟨x22, v23, h⟩ := h
 refine Zv (OV.loadT rfl rfl rfl v23) (GL.callU (xv := p_del) (vs := [.agg (Qa.c x22).toArray]) h trivial rfl rfl rfl ?_)
 rintro _ H25 ⟨r24, rfl, h⟩
 refine Zv (OV.not rfl) (GL.nil (Yd h (fun u26 h => ?_) fun u26 h => ?_))
 refine Zo (Zm (Zm ?_))
 obtain ⟨x27, v28, h⟩ := h
 refine Zv (OV.loadT rfl rfl rfl v28) (Yx h fun p29 h => ?_)
 refine GL.storeT (p := (p29.1, p29.2 + (x4.1 : Int).toNat * 2)) (vs := Qa.c x27) h trivial rfl rfl rfl rfl ?_
 intro H34 h
 refine GL.nil (GC.region (Zm (Zi (.int .i64 (w .i64 (x4.1 + 1))) (Za ?_))))
 exact Yj I3 (w .i64 (x4.1 + 1)) h
 exact Yk I3 x4.1 h
 intro x9 H10 h
 replace h := hR11 x9 H10 h
 refine GC.region (Zm (Zi (.int .i64 (w .i64 (x4.2 + 1))) (Za ?_)))
 exact Yj I3 (x9, (w .i64 (x4.2 + 1))) h
 refine GC.exit_to (fun _ _ h => h) (Zo (Zm (Zm ?_)))
 obtain ⟨h36, h37, h38, h39, t35, h40, h⟩ := h
 refine Zv (OV.sliceSl (s := p_s) h36 h37 h38 h39 h40 rfl rfl rfl rfl rfl rfl rfl (fun h => by first | rfl | cases h) rfl rfl) (GL.clear (s := t35) (zc := Qa.c Qa.zero) (bytes := 32) h trivial rfl ⟨⟨_, _, _, rfl, rfl, rfl, rfl, rfl, rfl⟩⟩ rfl ?_)
 intro H41 h
 refine GL.nil (Zo (Zm (Zm ?_)))
 obtain ⟨h43, h44, h45, h46, t42, h47, h⟩ := h
 refine Zv (OV.sliceSl (s := p_s) h43 h44 h45 h46 h47 rfl rfl rfl rfl rfl rfl rfl (fun h => by first | rfl | cases h) rfl rfl) (Za (GL.nil ?_))
 exact Y1 I3 ⟨t42, rfl, h⟩
def Qcq (C : Ctx) (p_x : Qa) (K : Bool → Heap → Prop) (H : Heap) : Prop :=
 nw (Qa.c p_x) (fun b1 H2 =>
 ldI H2 .i64 ((b1, 0).1, (b1, 0).2 + 1) fun x3 =>
 K (decide ((x3 : Int) < 0)) H2) H
theorem QdQ (C p_x K H) (h : Qcq C p_x K H) : Qal C p_x K H := by
 refine Ye Tryz.func37 rfl Tryz.ntmps37 [(0, .agg (Qa.c p_x).toArray)] (Zo (GL.box (v := .agg (Qa.c p_x).toArray) (cs := Qa.c p_x) h trivial rfl rfl rfl ?_))
 intro b1 H2 h
 refine Za (GL.nil (Zo (Zf (Yl h fun x3 h => ?_))))
 refine Zi (.bool (decide ((x3 : Int) < 0))) (Za (GL.nil ?_))
 exact Y1 I3 ⟨(decide ((x3 : Int) < 0)), rfl, h⟩
def Qdw (C : Ctx) (p_v : Qb) (p_most : Int) (K : Int → Heap → Prop) (H : Heap) : Prop :=
 nw (Qb.c p_v) (fun b1 H2 =>
 jn (α := Int) (fun x4 H5 =>
 K (w .i64 (x4 + 1)) H5)
 (fun J3 => ldL H2 ((b1, 0).1, (b1, 0).2 + 3) fun x7 =>
 lp (α := Int × Int) (0, 0) H2 (fun x9 J10 H11 =>
 ift (decide ((x9.2 : Int) < (Sl.len x7 : Int)))
 (ixa x7 x9.2 fun p13 =>
 ldT H11 Qb.c (p13.1, p13.2 + (x9.2 : Int).toNat * 4) fun x18 =>
 nw (Qb.c Qb.zero) (fun b20 H21 =>
 stT (b20, 0) (Qb.c x18) (fun H22 =>
 ift (decide ((x9.1 : Int) ≥ p_most))
 (J3 x9.1 H22)
 (ldT H22 Qb.c (b20, 0) fun x24 =>
 Qai C x24 (w .i64 (p_most - 1)) (fun r26 H27 =>
 J10 ((if r26 > x9.1 then r26 else x9.1 : Int), (w .i64 (x9.2 + 1))) H27) H22)) H21) H11)
 (J3 x9.1 H11)))) H
theorem Qfs (C p_v p_most K H) (h : Qdw C p_v p_most K H) : Qai C p_v p_most K H := by
 refine Ye Tryz.func38 rfl Tryz.ntmps38 [(0, .agg (Qb.c p_v).toArray), (1, .int .i64 p_most)] (Zo (GL.box (v := .agg (Qb.c p_v).toArray) (cs := Qb.c p_v) h trivial rfl rfl rfl ?_))
 intro b1 H2 h
 refine Za (GL.nil (Zo (Za (GL.nil ?_))))
 obtain ⟨J3, h, hR6⟩ := h
 refine GC.join (α := Int) J3 (fun x4 => [(5, .int .i64 x4)]) ?_ ?_
 refine Zo (Zf (Yl h fun x7 h => ?_))
 refine Zq (Zm (GL.nil (GC.block (Yp h (fun x9 => [(5, .int .i64 x9.1), (11, .int .i64 x9.2), (1, .int .i64 p_most), (9, slv x7), (10, .int .i64 (Sl.len x7 : Int))]) ?_))))
 intro x9 H11 J10 h
 refine Zo (Zi (.bool (decide ((x9.2 : Int) < (Sl.len x7 : Int)))) (GL.nil (GC.seq (Yd h (fun u12 h => ?_) fun u12 h => ?_))))
 refine GC.skip (GC.seq (GC.block (Zo (Yx h fun p13 h => ?_))))
 obtain ⟨x18, v19, h⟩ := h
 refine Zv (OV.loadT rfl rfl rfl v19) (GL.alloc (cs := Qb.c Qb.zero) h trivial rfl rfl rfl ?_)
 intro b20 H21 h
 refine GL.storeT (p := (b20, 0)) (vs := Qb.c x18) h trivial rfl rfl rfl rfl ?_
 intro H22 h
 refine GL.nil (GC.seq (Zo (Zm (Zm (Zi (.bool (decide ((x9.1 : Int) ≥ p_most))) (GL.nil (Yd h (fun u23 h => ?_) fun u23 h => ?_)))))))
 exact GC.exit_jump (fun _ _ h => h) x9.1 h ⟨rfl, trivial⟩
 refine GC.skip (GC.region (Zm ?_))
 obtain ⟨x24, v25, h⟩ := h
 refine Zv (OV.loadT rfl rfl rfl v25) (Zm (Zi (.int .i64 (w .i64 (p_most - 1))) (Zc h Qdp ?_)))
 rintro _ H27 ⟨r26, rfl, h⟩
 refine Zv (OV.maxI rfl rfl) (Za (GL.nil_to (fun _ _ h => h) (GC.region (Zi (.int .i64 (w .i64 (x9.2 + 1))) (Zm ?_)))))
 exact Yj I3 ((if r26 > x9.1 then r26 else x9.1 : Int), (w .i64 (x9.2 + 1))) h
 exact GC.exit_jump (fun _ _ h => h) x9.1 h ⟨rfl, trivial⟩
 intro x4 H5 h
 replace h := hR6 x4 H5 h
 refine Zo (Zm (Zi (.int .i64 (w .i64 (x4 + 1))) (Za (GL.nil ?_))))
 exact Y1 I3 ⟨(w .i64 (x4 + 1)), rfl, h⟩
def Qcp (C : Ctx) (p_v : Qb) (K : Bool → Bool → Heap → Prop) (H : Heap) : Prop :=
 nw (Qb.c p_v) (fun b1 H2 =>
 ldI H2 .i64 ((b1, 0).1, (b1, 0).2 + 1) fun x3 =>
 jn (α := Bool) (fun b5 H11 =>
 jn (α := Bool) (fun b12 H18 =>
 jn (α := Bool × Bool) (fun x20 H21 =>
 ldL H21 ((b1, 0).1, (b1, 0).2 + 3) fun x149 =>
 lp (α := Bool × Bool × Int) (x20.1, x20.2, 0) H21 (fun x151 J152 H153 =>
 ift (decide ((x151.2.2 : Int) < (Sl.len x149 : Int)))
 (ixa x149 x151.2.2 fun p155 =>
 ldT H153 Qb.c (p155.1, p155.2 + (x151.2.2 : Int).toNat * 4) fun x160 =>
 nw (Qb.c Qb.zero) (fun b162 H163 =>
 stT (b162, 0) (Qb.c x160) (fun H164 =>
 ldT H164 Qb.c (b162, 0) fun x165 =>
 QJ C x165 (fun r167 r168 H169 =>
 J152 ((x151.1 && r167), (x151.2.1 && r168), (w .i64 (x151.2.2 + 1))) H169) H164) H163) H153)
 (K x151.1 x151.2.1 H153)))
 (fun J19 => ldI H18 .u8 ((b1, 0).1, (b1, 0).2 + 0) fun x23 =>
 ift ((x23 : Int) == 1)
 (ldI H18 .i64 ((b1, 0).1, (b1, 0).2 + 1) fun x26 =>
 jn (α := Bool) (fun b28 H34 =>
 jn (α := Bool) (fun b35 H41 =>
 jn (α := Bool) (fun b42 H48 =>
 J19 (b42, true) H48)
 (fun J43 => ift b35
 (ldL H41 ((b1, 0).1, (b1, 0).2 + 3) fun x46 =>
 J43 (((Sl.len x46 : Int) : Int) == 0) H41)
 (J43 false H41)))
 (fun J36 => ift b28
 (ldS H34 ((b1, 0).1, (b1, 0).2 + 2) fun x39 =>
 J36 (x39 == ([] : Str)) H34)
 (J36 false H34)))
 (fun J29 => ift ((x26 : Int) == 0)
 (J29 true H18)
 (ldI H18 .i64 ((b1, 0).1, (b1, 0).2 + 1) fun x32 =>
 J29 ((x32 : Int) == 1) H18)))
 (ift ((x23 : Int) == 2)
 (ldS H18 ((b1, 0).1, (b1, 0).2 + 2) fun x50 =>
 jn (α := Bool) (fun b52 H58 =>
 J19 (b52, true) H58)
 (fun J53 => ift (x50 == ([] : Str))
 (ldL H18 ((b1, 0).1, (b1, 0).2 + 3) fun x56 =>
 J53 (((Sl.len x56 : Int) : Int) == 0) H18)
 (J53 false H18)))
 (ift ((x23 : Int) == 3)
 (ldS H18 ((b1, 0).1, (b1, 0).2 + 2) fun x60 =>
 Qct C x60 (fun r62 r63 H64 =>
 jn (α := Bool) (fun b65 H71 =>
 jn (α := Bool) (fun b72 H78 =>
 J19 (b72, (decide ((r62 : Int) ≤ 200))) H78)
 (fun J73 => ift b65
 (ldL H71 ((b1, 0).1, (b1, 0).2 + 3) fun x76 =>
 J73 (((Sl.len x76 : Int) : Int) == 0) H71)
 (J73 false H71)))
 (fun J66 => ift r63
 (ldI H64 .i64 ((b1, 0).1, (b1, 0).2 + 1) fun x69 =>
 J66 ((x69 : Int) == 0) H64)
 (J66 false H64))) H18)
 (ift ((x23 : Int) == 4)
 (jn (α := Bool × Bool) (fun x81 H82 =>
 J19 (x81.1, x81.2) H82)
 (fun J80 => dr H18 fun Hs84 =>
 ldI Hs84 .i64 ((b1, 0).1, (b1, 0).2 + 1) fun x86 =>
 ldS Hs84 ((b1, 0).1, (b1, 0).2 + 2) fun x88 =>
 ift ((x86 : Int) == 0)
 (ldL Hs84 ((b1, 0).1, (b1, 0).2 + 3) fun x91 =>
 J80 ((((Sl.len x91 : Int) : Int) == 0), (decide (((List.length x88 : Int) : Int) ≤ 4096))) H18)
 (J80 (false, (decide (((List.length x88 : Int) : Int) ≤ 4096))) H18)))
 (ift ((x23 : Int) == 5)
 (jn (α := Bool × Bool) (fun x95 H96 =>
 J19 (x95.1, x95.2) H96)
 (fun J94 => dr H18 fun Hs98 =>
 ldI Hs98 .i64 ((b1, 0).1, (b1, 0).2 + 1) fun x100 =>
 ldL Hs98 ((b1, 0).1, (b1, 0).2 + 3) fun x102 =>
 ift ((x100 : Int) == 0)
 (ldS Hs98 ((b1, 0).1, (b1, 0).2 + 2) fun x105 =>
 ift (x105 == ([] : Str))
 (ldL Hs98 ((b1, 0).1, (b1, 0).2 + 3) fun x108 =>
 J94 ((((Sl.len x108 : Int) : Int) != 1), (decide (((Sl.len x102 : Int) : Int) ≤ 16))) H18)
 (J94 (false, (decide (((Sl.len x102 : Int) : Int) ≤ 16))) H18))
 (J94 (false, (decide (((Sl.len x102 : Int) : Int) ≤ 16))) H18)))
 (ift ((x23 : Int) == 6)
 (ldS H18 ((b1, 0).1, (b1, 0).2 + 2) fun x111 =>
 QcJ C x111 [46] (fun r113 r114 r115 H116 =>
 jn (α := Bool × Bool) (fun x118 H119 =>
 J19 (x118.1, x118.2) H119)
 (fun J117 => dr H116 fun Hs121 =>
 ldI Hs121 .i64 ((b1, 0).1, (b1, 0).2 + 1) fun x123 =>
 ldL Hs121 ((b1, 0).1, (b1, 0).2 + 3) fun x125 =>
 ift ((x123 : Int) == 0)
 (Qbn C r113 (fun r129 H130 =>
 Heap.le Hs121 H130 ∧
 ift r129
 (ift r115
 (Qbn C r114 (fun r134 H135 =>
 Heap.le Hs121 H135 ∧
 ift r134
 (J117 (true, (decide (((Sl.len x125 : Int) : Int) ≤ 8))) H135)
 (ift (!r115)
 (ldS Hs121 ((b1, 0).1, (b1, 0).2 + 2) fun x138 =>
 ift (!(x138 == ([116, 114, 117, 101] : Str)))
 (ldS Hs121 ((b1, 0).1, (b1, 0).2 + 2) fun x141 =>
 J117 ((!(x141 == ([102, 97, 108, 115, 101] : Str))), (decide (((Sl.len x125 : Int) : Int) ≤ 8))) H135)
 (J117 (false, (decide (((Sl.len x125 : Int) : Int) ≤ 8))) H135))
 (J117 (false, (decide (((Sl.len x125 : Int) : Int) ≤ 8))) H135))) H130)
 (ift (!r115)
 (ldS Hs121 ((b1, 0).1, (b1, 0).2 + 2) fun x144 =>
 ift (!(x144 == ([116, 114, 117, 101] : Str)))
 (ldS Hs121 ((b1, 0).1, (b1, 0).2 + 2) fun x147 =>
 J117 ((!(x147 == ([102, 97, 108, 115, 101] : Str))), (decide (((Sl.len x125 : Int) : Int) ≤ 8))) H130)
 (J117 (false, (decide (((Sl.len x125 : Int) : Int) ≤ 8))) H130))
 (J117 (false, (decide (((Sl.len x125 : Int) : Int) ≤ 8))) H130)))
 (J117 (false, (decide (((Sl.len x125 : Int) : Int) ≤ 8))) H130)) H116)
 (J117 (false, (decide (((Sl.len x125 : Int) : Int) ≤ 8))) H116))) H18)
 (J19 (false, true) H18))))))))
 (fun J13 => ift b5
 (ldL H11 ((b1, 0).1, (b1, 0).2 + 3) fun x16 =>
 J13 (((Sl.len x16 : Int) : Int) == 0) H11)
 (J13 false H11)))
 (fun J6 => ift ((x3 : Int) == 0)
 (ldS H2 ((b1, 0).1, (b1, 0).2 + 2) fun x9 =>
 J6 (x9 == ([] : Str)) H2)
 (J6 false H2))) H
theorem QdP (C p_v K H) (h : Qcp C p_v K H) : QJ C p_v K H := by
 refine Ye Tryz.func39 rfl Tryz.ntmps39 [(0, .agg (Qb.c p_v).toArray)] (Zo (GL.box (v := .agg (Qb.c p_v).toArray) (cs := Qb.c p_v) h trivial rfl rfl rfl ?_))
 intro b1 H2 h
 refine Za (Za (GL.nil (Zo (Zf (Yl h fun x3 h => ?_)))))
 refine Zi (.bool ((x3 : Int) == 0)) (Zm ?_)
 obtain ⟨J6, h, hR7⟩ := h
 refine GL.cut (α := Bool) 4 J6 (fun b5 => [(20, .bool b5), (1, pv (some (b1, 0)))]) ?_ ?_
 rcases h.em with ⟨u8, h⟩ | ⟨u8, h⟩
 refine Zu u8 Yf ?_
 obtain ⟨x9, v10, h⟩ := h
 refine Zu u8 (Yo v10) (Zu u8 (OV.sbin (a := x9) (b := ([] : Str)) (v := .bool (x9 == ([] : Str))) rfl rfl rfl) (Zt u8 ?_))
 exact Yj I3 (x9 == ([] : Str)) h
 refine Zk u8 (Zk u8 (Zk u8 (Zn u8 ?_)))
 exact Yj I3 false h
 intro b5 H11 h
 replace h := hR7 b5 H11 h
 refine Zm ?_
 obtain ⟨J13, h, hR14⟩ := h
 refine GL.cut (α := Bool) 5 J13 (fun b12 => [(26, .bool b12), (1, pv (some (b1, 0)))]) ?_ ?_
 rcases h.em with ⟨u15, h⟩ | ⟨u15, h⟩
 refine Zu u15 Yf ?_
 obtain ⟨x16, v17, h⟩ := h
 refine Zu u15 (Yo v17) (Zu u15 (OV.lenSl rfl rfl) (Zu u15 (OV.ibin (v := .bool (((Sl.len x16 : Int) : Int) == 0)) rfl rfl rfl) (Zt u15 ?_)))
 exact Yj I3 (((Sl.len x16 : Int) : Int) == 0) h
 refine Zk u15 (Zk u15 (Zk u15 (Zk u15 (Zn u15 ?_))))
 exact Yj I3 false h
 intro b12 H18 h
 replace h := hR14 b12 H18 h
 refine Za (Za (GL.nil ?_))
 obtain ⟨J19, h, hR22⟩ := h
 refine GC.join (α := Bool × Bool) J19 (fun x20 => [(2, .bool x20.1), (3, .bool x20.2), (1, pv (some (b1, 0)))]) ?_ ?_
 refine Zo (Zf (Yl h fun x23 h => ?_))
 refine GL.nil (GC.block (Zo (Zi (.bool ((x23 : Int) == 1)) (Za (GL.nil (Yd h (fun u25 h => ?_) fun u25 h => ?_))))))
 refine GC.region (Zf (Yl h fun x26 h => ?_))
 refine Zi (.bool ((x26 : Int) == 0)) (Zm ?_)
 obtain ⟨J29, h, hR30⟩ := h
 refine GL.cut (α := Bool) 4 J29 (fun b28 => [(38, .bool b28), (1, pv (some (b1, 0))), (3, .bool true)]) ?_ ?_
 rcases h.em with ⟨u31, h⟩ | ⟨u31, h⟩
 refine Zk u31 (Zk u31 (Zk u31 (Zt u31 ?_)))
 exact Yj I3 true h
 refine Zu u31 Yf ?_
 obtain ⟨x32, v33, h⟩ := h
 refine Zu u31 (Yo v33) (Zu u31 (OV.ibin (v := .bool ((x32 : Int) == 1)) rfl rfl rfl) (Zn u31 ?_))
 exact Yj I3 ((x32 : Int) == 1) h
 intro b28 H34 h
 replace h := hR30 b28 H34 h
 refine Zm ?_
 obtain ⟨J36, h, hR37⟩ := h
 refine GL.cut (α := Bool) 4 J36 (fun b35 => [(43, .bool b35), (1, pv (some (b1, 0))), (3, .bool true)]) ?_ ?_
 rcases h.em with ⟨u38, h⟩ | ⟨u38, h⟩
 refine Zu u38 Yf ?_
 obtain ⟨x39, v40, h⟩ := h
 refine Zu u38 (Yo v40) (Zu u38 (OV.sbin (a := x39) (b := ([] : Str)) (v := .bool (x39 == ([] : Str))) rfl rfl rfl) (Zt u38 ?_))
 exact Yj I3 (x39 == ([] : Str)) h
 refine Zk u38 (Zk u38 (Zk u38 (Zn u38 ?_)))
 exact Yj I3 false h
 intro b35 H41 h
 replace h := hR37 b35 H41 h
 refine Zm ?_
 obtain ⟨J43, h, hR44⟩ := h
 refine GL.cut (α := Bool) 5 J43 (fun b42 => [(49, .bool b42), (1, pv (some (b1, 0))), (3, .bool true)]) ?_ ?_
 rcases h.em with ⟨u45, h⟩ | ⟨u45, h⟩
 refine Zu u45 Yf ?_
 obtain ⟨x46, v47, h⟩ := h
 refine Zu u45 (Yo v47) (Zu u45 (OV.lenSl rfl rfl) (Zu u45 (OV.ibin (v := .bool (((Sl.len x46 : Int) : Int) == 0)) rfl rfl rfl) (Zt u45 ?_)))
 exact Yj I3 (((Sl.len x46 : Int) : Int) == 0) h
 refine Zk u45 (Zk u45 (Zk u45 (Zk u45 (Zn u45 ?_))))
 exact Yj I3 false h
 intro b42 H48 h
 replace h := hR44 b42 H48 h
 refine Za ?_
 exact Yj I3 (b42, true) h
 refine Zo (Zi (.bool ((x23 : Int) == 2)) (Za (GL.nil (Yd h (fun u49 h => ?_) fun u49 h => ?_))))
 refine GC.region (Zf (Yl h fun x50 h => ?_))
 refine Zv (OV.sbin (a := x50) (b := ([] : Str)) (v := .bool (x50 == ([] : Str))) rfl rfl rfl) (Zm ?_)
 obtain ⟨J53, h, hR54⟩ := h
 refine GL.cut (α := Bool) 5 J53 (fun b52 => [(60, .bool b52), (1, pv (some (b1, 0))), (3, .bool true)]) ?_ ?_
 rcases h.em with ⟨u55, h⟩ | ⟨u55, h⟩
 refine Zu u55 Yf ?_
 obtain ⟨x56, v57, h⟩ := h
 refine Zu u55 (Yo v57) (Zu u55 (OV.lenSl rfl rfl) (Zu u55 (OV.ibin (v := .bool (((Sl.len x56 : Int) : Int) == 0)) rfl rfl rfl) (Zt u55 ?_)))
 exact Yj I3 (((Sl.len x56 : Int) : Int) == 0) h
 refine Zk u55 (Zk u55 (Zk u55 (Zk u55 (Zn u55 ?_))))
 exact Yj I3 false h
 intro b52 H58 h
 replace h := hR54 b52 H58 h
 refine Za ?_
 exact Yj I3 (b52, true) h
 refine Zo (Zi (.bool ((x23 : Int) == 3)) (Za (GL.nil (Yd h (fun u59 h => ?_) fun u59 h => ?_))))
 refine Zo (Zf (Yl h fun x60 h => ?_))
 refine Zc h Qe8 ?_
 rintro _ H64 ⟨r62, r63, rfl, h⟩
 refine Zm (Yv (.int .i64 r62) rfl rfl (Yv (.bool r63) rfl rfl (Za (Za (GL.nil (GC.region (Zm (Zm ?_))))))))
 obtain ⟨J66, h, hR67⟩ := h
 refine GL.cut (α := Bool) 4 J66 (fun b65 => [(74, .bool b65), (1, pv (some (b1, 0))), (4, .int .i64 r62)]) ?_ ?_
 rcases h.em with ⟨u68, h⟩ | ⟨u68, h⟩
 refine Zu u68 Yf ?_
 obtain ⟨x69, v70, h⟩ := h
 refine Zu u68 (Yo v70) (Zu u68 (OV.ibin (v := .bool ((x69 : Int) == 0)) rfl rfl rfl) (Zt u68 ?_))
 exact Yj I3 ((x69 : Int) == 0) h
 refine Zk u68 (Zk u68 (Zk u68 (Zn u68 ?_)))
 exact Yj I3 false h
 intro b65 H71 h
 replace h := hR67 b65 H71 h
 refine Zm ?_
 obtain ⟨J73, h, hR74⟩ := h
 refine GL.cut (α := Bool) 5 J73 (fun b72 => [(80, .bool b72), (1, pv (some (b1, 0))), (4, .int .i64 r62)]) ?_ ?_
 rcases h.em with ⟨u75, h⟩ | ⟨u75, h⟩
 refine Zu u75 Yf ?_
 obtain ⟨x76, v77, h⟩ := h
 refine Zu u75 (Yo v77) (Zu u75 (OV.lenSl rfl rfl) (Zu u75 (OV.ibin (v := .bool (((Sl.len x76 : Int) : Int) == 0)) rfl rfl rfl) (Zt u75 ?_)))
 exact Yj I3 (((Sl.len x76 : Int) : Int) == 0) h
 refine Zk u75 (Zk u75 (Zk u75 (Zk u75 (Zn u75 ?_))))
 exact Yj I3 false h
 intro b72 H78 h
 replace h := hR74 b72 H78 h
 refine Zm (Zi (.bool (decide ((r62 : Int) ≤ 200))) (Za (Za ?_)))
 exact Yj I3 (b72, (decide ((r62 : Int) ≤ 200))) h
 refine Zo (Zi (.bool ((x23 : Int) == 4)) (Za (GL.nil (Yd h (fun u79 h => ?_) fun u79 h => ?_))))
 obtain ⟨J80, h, hR83⟩ := h
 refine GC.meet (α := Bool × Bool) J80 (fun x81 => [(2, .bool x81.1), (3, .bool x81.2), (1, pv (some (b1, 0)))]) ?_ ?_
 obtain ⟨Hs84, hle85, h⟩ := h
 refine GC.any (Hs := Hs84) (by kernel_rfl) hle85 (Zp 0 rfl Yf ?_)
 obtain ⟨x86, v87, h⟩ := h
 refine Zp 1 rfl (Yo v87) (Zp 2 rfl (OV.ibin (v := .bool ((x86 : Int) == 0)) rfl rfl rfl) (Zp 3 rfl Ym (Zp 9 rfl Yf ?_)))
 obtain ⟨x88, v89, h⟩ := h
 refine Zp 10 rfl (Yo v89) (Zp 11 rfl (OV.lenStr rfl rfl) (Zp 12 rfl (OV.ibin (v := .bool (decide (((List.length x88 : Int) : Int) ≤ 4096))) rfl rfl rfl) ?_))
 rcases h.em with ⟨u90, h⟩ | ⟨u90, h⟩
 refine Zg 4 rfl (Yt u90) Yf ?_
 obtain ⟨x91, v92, h⟩ := h
 refine Zg 5 rfl (Yt u90) (Yo v92) (Zg 6 rfl (Yt u90) (OV.lenSl rfl rfl) (Zg 7 rfl (Yt u90) (OV.ibin (v := .bool (((Sl.len x91 : Int) : Int) == 0)) rfl rfl rfl) (Zp 8 rfl (OV.pickT rfl u90 rfl) (Zp 13 rfl Ya (Zp 14 rfl Ya (GA.done (by kernel_rfl) ?_))))))
 exact Yj I3 ((((Sl.len x91 : Int) : Int) == 0), (decide (((List.length x88 : Int) : Int) ≤ 4096))) h
 refine Zj 4 rfl (Yw u90) (Zj 5 rfl (Yw u90) (Zj 6 rfl (Yw u90) (Zj 7 rfl (Yw u90) (Zp 8 rfl (OV.pickF rfl u90 rfl) (Zp 13 rfl Ya (Zp 14 rfl Ya (GA.done (by kernel_rfl) ?_)))))))
 exact Yj I3 (false, (decide (((List.length x88 : Int) : Int) ≤ 4096))) h
 intro x81 H82 h
 replace h := hR83 x81 H82 h
 exact Yj I3 (x81.1, x81.2) h
 refine Zo (Zi (.bool ((x23 : Int) == 5)) (Za (GL.nil (Yd h (fun u93 h => ?_) fun u93 h => ?_))))
 obtain ⟨J94, h, hR97⟩ := h
 refine GC.meet (α := Bool × Bool) J94 (fun x95 => [(2, .bool x95.1), (3, .bool x95.2), (1, pv (some (b1, 0)))]) ?_ ?_
 obtain ⟨Hs98, hle99, h⟩ := h
 refine GC.any (Hs := Hs98) (by kernel_rfl) hle99 (Zp 0 rfl Yf ?_)
 obtain ⟨x100, v101, h⟩ := h
 refine Zp 1 rfl (Yo v101) (Zp 2 rfl (OV.ibin (v := .bool ((x100 : Int) == 0)) rfl rfl rfl) (Zp 3 rfl Ym (Zp 14 rfl Yf ?_)))
 obtain ⟨x102, v103, h⟩ := h
 refine Zp 15 rfl (Yo v103) (Zp 16 rfl (OV.lenSl rfl rfl) (Zp 17 rfl (OV.ibin (v := .bool (decide (((Sl.len x102 : Int) : Int) ≤ 16))) rfl rfl rfl) ?_))
 rcases h.em with ⟨u104, h⟩ | ⟨u104, h⟩
 refine Zg 4 rfl (Yt u104) Yf ?_
 obtain ⟨x105, v106, h⟩ := h
 refine Zg 5 rfl (Yt u104) (Yo v106) (Zg 6 rfl (Yt u104) (OV.sbin (a := x105) (b := ([] : Str)) (v := .bool (x105 == ([] : Str))) rfl rfl rfl) (Zp 7 rfl (OV.pickT rfl u104 rfl) (Zp 8 rfl Ym ?_)))
 rcases h.em with ⟨u107, h⟩ | ⟨u107, h⟩
 refine Zg 9 rfl (Yt u107) Yf ?_
 obtain ⟨x108, v109, h⟩ := h
 refine Zg 10 rfl (Yt u107) (Yo v109) (Zg 11 rfl (Yt u107) (OV.lenSl rfl rfl) (Zg 12 rfl (Yt u107) (OV.ibin (v := .bool (((Sl.len x108 : Int) : Int) != 1)) rfl rfl rfl) (Zp 13 rfl (OV.pickT rfl u107 rfl) (Zp 18 rfl Ya (Zp 19 rfl Ya (GA.done (by kernel_rfl) ?_))))))
 exact Yj I3 ((((Sl.len x108 : Int) : Int) != 1), (decide (((Sl.len x102 : Int) : Int) ≤ 16))) h
 refine Zj 9 rfl (Yw u107) (Zj 10 rfl (Yw u107) (Zj 11 rfl (Yw u107) (Zj 12 rfl (Yw u107) (Zp 13 rfl (OV.pickF rfl u107 rfl) (Zp 18 rfl Ya (Zp 19 rfl Ya (GA.done (by kernel_rfl) ?_)))))))
 exact Yj I3 (false, (decide (((Sl.len x102 : Int) : Int) ≤ 16))) h
 refine Zj 4 rfl (Yw u104) (Zj 5 rfl (Yw u104) (Zj 6 rfl (Yw u104) (Zp 7 rfl (OV.pickF rfl u104 rfl) (Zp 8 rfl Ym (Zj 9 rfl (Yw rfl) (Zj 10 rfl (Yw rfl) (Zj 11 rfl (Yw rfl) (Zj 12 rfl (Yw rfl) (Zp 13 rfl (OV.pickF rfl rfl rfl) (Zp 18 rfl Ya (Zp 19 rfl Ya (GA.done (by kernel_rfl) ?_))))))))))))
 exact Yj I3 (false, (decide (((Sl.len x102 : Int) : Int) ≤ 16))) h
 intro x95 H96 h
 replace h := hR97 x95 H96 h
 exact Yj I3 (x95.1, x95.2) h
 refine Zo (Zi (.bool ((x23 : Int) == 6)) (Za (GL.nil (Yd h (fun u110 h => ?_) fun u110 h => ?_))))
 refine Zo (Zf (Yl h fun x111 h => ?_))
 refine Zc h Qfz ?_
 rintro _ H116 ⟨r113, r114, r115, rfl, h⟩
 refine Zm (Yv (sv r113) rfl rfl (Yv (sv r114) rfl rfl (Yv (.bool r115) rfl rfl (Za (Za (Za (GL.nil ?_)))))))
 obtain ⟨J117, h, hR120⟩ := h
 refine GC.meet (α := Bool × Bool) J117 (fun x118 => [(2, .bool x118.1), (3, .bool x118.2), (1, pv (some (b1, 0)))]) ?_ ?_
 obtain ⟨Hs121, hle122, h⟩ := h
 refine GC.any (Hs := Hs121) (by kernel_rfl) hle122 (Zp 0 rfl Yf ?_)
 obtain ⟨x123, v124, h⟩ := h
 refine Zp 1 rfl (Yo v124) (Zp 2 rfl (OV.ibin (v := .bool ((x123 : Int) == 0)) rfl rfl rfl) (Zp 3 rfl Ym (Zp 28 rfl Yf ?_)))
 obtain ⟨x125, v126, h⟩ := h
 refine Zp 29 rfl (Yo v126) (Zp 30 rfl (OV.lenSl rfl rfl) (Zp 31 rfl (OV.ibin (v := .bool (decide (((Sl.len x125 : Int) : Int) ≤ 8))) rfl rfl rfl) ?_))
 rcases h.em with ⟨u127, h⟩ | ⟨u127, h⟩
 refine Zg 4 rfl (Yt u127) Ym (GA.eff 5 rfl (by kernel_rfl) (GL.call h (Yt u127) rfl Qd1 (vs := [sv r113]) rfl ?_))
 rintro _ H130 ⟨r129, rfl, h⟩
 obtain ⟨hle128, h⟩ := h
 refine GA.back hle128 (Zp 6 rfl (OV.pickT rfl u127 rfl) (Zp 7 rfl Ym ?_))
 rcases h.em with ⟨u131, h⟩ | ⟨u131, h⟩
 refine Zg 8 rfl (Yt u131) Ym (Zg 9 rfl (Yt u131) Ym ?_)
 rcases h.em with ⟨u132, h⟩ | ⟨u132, h⟩
 refine Zg 10 rfl (Yt u132) Ym (GA.eff 11 rfl (by kernel_rfl) (GL.call h (Yt u132) rfl Qd1 (vs := [sv r114]) rfl ?_))
 rintro _ H135 ⟨r134, rfl, h⟩
 obtain ⟨hle133, h⟩ := h
 refine GA.back hle133 (Zg 12 rfl (Yt u131) (OV.pickT rfl u132 rfl) (Zg 13 rfl (Yt u131) Ym ?_))
 rcases h.em with ⟨u136, h⟩ | ⟨u136, h⟩
 refine Zj 14 rfl (Yw u136) (Zj 15 rfl (Yw u136) (Zj 16 rfl (Yw u136) (Zj 17 rfl ⟨_, rfl, .inr rfl⟩ (Zj 18 rfl ⟨_, rfl, .inr rfl⟩ (Zj 19 rfl ⟨_, rfl, .inr rfl⟩ (Zj 20 rfl (Yw u136) (Zj 21 rfl (Yw u136) (Zj 22 rfl ⟨_, rfl, .inr rfl⟩ (Zj 23 rfl ⟨_, rfl, .inr rfl⟩ (Zj 24 rfl ⟨_, rfl, .inr rfl⟩ (Zj 25 rfl (Yw u136) (Zg 26 rfl (Yt u131) (OV.pickT rfl u136 rfl) (Zp 27 rfl (OV.pickT rfl u131 rfl) (Zp 32 rfl Ya (Zp 33 rfl Ya (GA.done (by kernel_rfl) ?_))))))))))))))))
 exact Yj I3 (true, (decide (((Sl.len x125 : Int) : Int) ≤ 8))) h
 refine Zg 14 rfl (Yt u136) Ym (Zg 15 rfl (Yt u136) (OV.not rfl) (Zg 16 rfl (Yt u136) Ym ?_))
 rcases h.em with ⟨u137, h⟩ | ⟨u137, h⟩
 refine Zg 17 rfl (Yt u137) Yf ?_
 obtain ⟨x138, v139, h⟩ := h
 refine Zg 18 rfl (Yt u137) (Yo v139) (Zg 19 rfl (Yt u137) (OV.sbin (a := x138) (b := ([116, 114, 117, 101] : Str)) (v := .bool (!(x138 == ([116, 114, 117, 101] : Str)))) rfl rfl rfl) (Zg 20 rfl (Yt u136) (OV.pickT rfl u137 rfl) (Zg 21 rfl (Yt u136) Ym ?_)))
 rcases h.em with ⟨u140, h⟩ | ⟨u140, h⟩
 refine Zg 22 rfl (Yt u140) Yf ?_
 obtain ⟨x141, v142, h⟩ := h
 refine Zg 23 rfl (Yt u140) (Yo v142) (Zg 24 rfl (Yt u140) (OV.sbin (a := x141) (b := ([102, 97, 108, 115, 101] : Str)) (v := .bool (!(x141 == ([102, 97, 108, 115, 101] : Str)))) rfl rfl rfl) (Zg 25 rfl (Yt u136) (OV.pickT rfl u140 rfl) (Zg 26 rfl (Yt u131) (OV.pickF rfl u136 rfl) (Zp 27 rfl (OV.pickT rfl u131 rfl) (Zp 32 rfl Ya (Zp 33 rfl Ya (GA.done (by kernel_rfl) ?_)))))))
 exact Yj I3 ((!(x141 == ([102, 97, 108, 115, 101] : Str))), (decide (((Sl.len x125 : Int) : Int) ≤ 8))) h
 refine Zj 22 rfl (Yw u140) (Zj 23 rfl (Yw u140) (Zj 24 rfl (Yw u140) (Zg 25 rfl (Yt u136) (OV.pickF rfl u140 rfl) (Zg 26 rfl (Yt u131) (OV.pickF rfl u136 rfl) (Zp 27 rfl (OV.pickT rfl u131 rfl) (Zp 32 rfl Ya (Zp 33 rfl Ya (GA.done (by kernel_rfl) ?_))))))))
 exact Yj I3 (false, (decide (((Sl.len x125 : Int) : Int) ≤ 8))) h
 refine Zj 17 rfl (Yw u137) (Zj 18 rfl (Yw u137) (Zj 19 rfl (Yw u137) (Zg 20 rfl (Yt u136) (OV.pickF rfl u137 rfl) (Zg 21 rfl (Yt u136) Ym (Zj 22 rfl (Yw rfl) (Zj 23 rfl (Yw rfl) (Zj 24 rfl (Yw rfl) (Zg 25 rfl (Yt u136) (OV.pickF rfl rfl rfl) (Zg 26 rfl (Yt u131) (OV.pickF rfl u136 rfl) (Zp 27 rfl (OV.pickT rfl u131 rfl) (Zp 32 rfl Ya (Zp 33 rfl Ya (GA.done (by kernel_rfl) ?_)))))))))))))
 exact Yj I3 (false, (decide (((Sl.len x125 : Int) : Int) ≤ 8))) h
 refine Zj 10 rfl (Yw u132) (Zj 11 rfl (Yw u132) (Zg 12 rfl (Yt u131) (OV.pickF rfl u132 rfl) (Zg 13 rfl (Yt u131) Ym (Zg 14 rfl (Yt rfl) Ym (Zg 15 rfl (Yt rfl) (OV.not rfl) (Zg 16 rfl (Yt rfl) Ym ?_))))))
 rcases h.em with ⟨u143, h⟩ | ⟨u143, h⟩
 refine Zg 17 rfl (Yt u143) Yf ?_
 obtain ⟨x144, v145, h⟩ := h
 refine Zg 18 rfl (Yt u143) (Yo v145) (Zg 19 rfl (Yt u143) (OV.sbin (a := x144) (b := ([116, 114, 117, 101] : Str)) (v := .bool (!(x144 == ([116, 114, 117, 101] : Str)))) rfl rfl rfl) (Zg 20 rfl (Yt rfl) (OV.pickT rfl u143 rfl) (Zg 21 rfl (Yt rfl) Ym ?_)))
 rcases h.em with ⟨u146, h⟩ | ⟨u146, h⟩
 refine Zg 22 rfl (Yt u146) Yf ?_
 obtain ⟨x147, v148, h⟩ := h
 refine Zg 23 rfl (Yt u146) (Yo v148) (Zg 24 rfl (Yt u146) (OV.sbin (a := x147) (b := ([102, 97, 108, 115, 101] : Str)) (v := .bool (!(x147 == ([102, 97, 108, 115, 101] : Str)))) rfl rfl rfl) (Zg 25 rfl (Yt rfl) (OV.pickT rfl u146 rfl) (Zg 26 rfl (Yt u131) (OV.pickF rfl rfl rfl) (Zp 27 rfl (OV.pickT rfl u131 rfl) (Zp 32 rfl Ya (Zp 33 rfl Ya (GA.done (by kernel_rfl) ?_)))))))
 exact Yj I3 ((!(x147 == ([102, 97, 108, 115, 101] : Str))), (decide (((Sl.len x125 : Int) : Int) ≤ 8))) h
 refine Zj 22 rfl (Yw u146) (Zj 23 rfl (Yw u146) (Zj 24 rfl (Yw u146) (Zg 25 rfl (Yt rfl) (OV.pickF rfl u146 rfl) (Zg 26 rfl (Yt u131) (OV.pickF rfl rfl rfl) (Zp 27 rfl (OV.pickT rfl u131 rfl) (Zp 32 rfl Ya (Zp 33 rfl Ya (GA.done (by kernel_rfl) ?_))))))))
 exact Yj I3 (false, (decide (((Sl.len x125 : Int) : Int) ≤ 8))) h
 refine Zj 17 rfl (Yw u143) (Zj 18 rfl (Yw u143) (Zj 19 rfl (Yw u143) (Zg 20 rfl (Yt rfl) (OV.pickF rfl u143 rfl) (Zg 21 rfl (Yt rfl) Ym (Zj 22 rfl (Yw rfl) (Zj 23 rfl (Yw rfl) (Zj 24 rfl (Yw rfl) (Zg 25 rfl (Yt rfl) (OV.pickF rfl rfl rfl) (Zg 26 rfl (Yt u131) (OV.pickF rfl rfl rfl) (Zp 27 rfl (OV.pickT rfl u131 rfl) (Zp 32 rfl Ya (Zp 33 rfl Ya (GA.done (by kernel_rfl) ?_)))))))))))))
 exact Yj I3 (false, (decide (((Sl.len x125 : Int) : Int) ≤ 8))) h
 refine Zj 8 rfl (Yw u131) (Zj 9 rfl (Yw u131) (Zj 10 rfl ⟨_, rfl, .inr rfl⟩ (Zj 11 rfl ⟨_, rfl, .inr rfl⟩ (Zj 12 rfl (Yw u131) (Zj 13 rfl (Yw u131) (Zj 14 rfl ⟨_, rfl, .inr rfl⟩ (Zj 15 rfl ⟨_, rfl, .inr rfl⟩ (Zj 16 rfl ⟨_, rfl, .inr rfl⟩ (Zj 17 rfl ⟨_, rfl, .inr rfl⟩ (Zj 18 rfl ⟨_, rfl, .inr rfl⟩ (Zj 19 rfl ⟨_, rfl, .inr rfl⟩ (Zj 20 rfl ⟨_, rfl, .inr rfl⟩ (Zj 21 rfl ⟨_, rfl, .inr rfl⟩ (Zj 22 rfl ⟨_, rfl, .inr rfl⟩ (Zj 23 rfl ⟨_, rfl, .inr rfl⟩ (Zj 24 rfl ⟨_, rfl, .inr rfl⟩ (Zj 25 rfl ⟨_, rfl, .inr rfl⟩ (Zj 26 rfl (Yw u131) (Zp 27 rfl (OV.pickF rfl u131 rfl) (Zp 32 rfl Ya (Zp 33 rfl Ya (GA.done (by kernel_rfl) ?_))))))))))))))))))))))
 exact Yj I3 (false, (decide (((Sl.len x125 : Int) : Int) ≤ 8))) h
 refine Zj 4 rfl (Yw u127) (Zj 5 rfl (Yw u127) (Zp 6 rfl (OV.pickF rfl u127 rfl) (Zp 7 rfl Ym (Zj 8 rfl (Yw rfl) (Zj 9 rfl (Yw rfl) (Zj 10 rfl ⟨_, rfl, .inr rfl⟩ (Zj 11 rfl ⟨_, rfl, .inr rfl⟩ (Zj 12 rfl (Yw rfl) (Zj 13 rfl (Yw rfl) (Zj 14 rfl ⟨_, rfl, .inr rfl⟩ (Zj 15 rfl ⟨_, rfl, .inr rfl⟩ (Zj 16 rfl ⟨_, rfl, .inr rfl⟩ (Zj 17 rfl ⟨_, rfl, .inr rfl⟩ (Zj 18 rfl ⟨_, rfl, .inr rfl⟩ (Zj 19 rfl ⟨_, rfl, .inr rfl⟩ (Zj 20 rfl ⟨_, rfl, .inr rfl⟩ (Zj 21 rfl ⟨_, rfl, .inr rfl⟩ (Zj 22 rfl ⟨_, rfl, .inr rfl⟩ (Zj 23 rfl ⟨_, rfl, .inr rfl⟩ (Zj 24 rfl ⟨_, rfl, .inr rfl⟩ (Zj 25 rfl ⟨_, rfl, .inr rfl⟩ (Zj 26 rfl (Yw rfl) (Zp 27 rfl (OV.pickF rfl rfl rfl) (Zp 32 rfl Ya (Zp 33 rfl Ya (GA.done (by kernel_rfl) ?_))))))))))))))))))))))))))
 exact Yj I3 (false, (decide (((Sl.len x125 : Int) : Int) ≤ 8))) h
 intro x118 H119 h
 replace h := hR120 x118 H119 h
 exact Yj I3 (x118.1, x118.2) h
 refine GC.region (Za ?_)
 exact Yj I3 (false, true) h
 intro x20 H21 h
 replace h := hR22 x20 H21 h
 refine GC.seq (Zo (Zf (Yl h fun x149 h => ?_)))
 refine Zq (Zm (GL.nil (GC.block (Yp h (fun x151 => [(2, .bool x151.1), (3, .bool x151.2.1), (162, .int .i64 x151.2.2), (160, slv x149), (161, .int .i64 (Sl.len x149 : Int))]) ?_))))
 intro x151 H153 J152 h
 refine Zo (Zi (.bool (decide ((x151.2.2 : Int) < (Sl.len x149 : Int)))) (GL.nil (GC.seq (Yd h (fun u154 h => ?_) fun u154 h => ?_))))
 refine GC.skip (GC.seq (GC.block (Zo (Yx h fun p155 h => ?_))))
 obtain ⟨x160, v161, h⟩ := h
 refine Zv (OV.loadT rfl rfl rfl v161) (GL.alloc (cs := Qb.c Qb.zero) h trivial rfl rfl rfl ?_)
 intro b162 H163 h
 refine GL.storeT (p := (b162, 0)) (vs := Qb.c x160) h trivial rfl rfl rfl rfl ?_
 intro H164 h
 refine GL.nil (Zo ?_)
 obtain ⟨x165, v166, h⟩ := h
 refine Zv (OV.loadT rfl rfl rfl v166) (Zc h Qcl ?_)
 rintro _ H169 ⟨r167, r168, rfl, h⟩
 refine Zm (Yv (.bool r167) rfl rfl (Yv (.bool r168) rfl rfl (Za (Za (GL.nil (GC.region (Zm (Zm (GL.cut0 2 [(174, .bool (x151.1 && r167)), (3, .bool x151.2.1), (12, .bool r168), (160, slv x149), (161, .int .i64 (Sl.len x149 : Int)), (162, .int .i64 x151.2.2)] ?_ ?_)))))))))
 rcases Bool.eq_false_or_eq_true x151.1 with u170 | u170
 refine Zu u170 Ym (Zt u170 ?_)
 exact GL.jump0 (fun _ _ h => h) () rfl ⟨(by rw [u170]; rfl), rfl, rfl, rfl, rfl, rfl, trivial⟩
 refine Zk u170 (Zn u170 ?_)
 exact GL.jump0 (fun _ _ h => h) () rfl ⟨(by rw [u170]; rfl), rfl, rfl, rfl, rfl, rfl, trivial⟩
 refine Zm (Zm (GL.cut0 2 [(178, .bool (x151.2.1 && r168)), (160, slv x149), (161, .int .i64 (Sl.len x149 : Int)), (162, .int .i64 x151.2.2), (174, .bool (x151.1 && r167))] ?_ ?_))
 rcases Bool.eq_false_or_eq_true x151.2.1 with u171 | u171
 refine Zu u171 Ym (Zt u171 ?_)
 exact GL.jump0 (fun _ _ h => h) () rfl ⟨(by rw [u171]; rfl), rfl, rfl, rfl, rfl, trivial⟩
 refine Zk u171 (Zn u171 ?_)
 exact GL.jump0 (fun _ _ h => h) () rfl ⟨(by rw [u171]; rfl), rfl, rfl, rfl, rfl, trivial⟩
 refine Za (Za (GL.nil_to (fun _ _ h => h) (GC.region (Zi (.int .i64 (w .i64 (x151.2.2 + 1))) (Zm ?_)))))
 exact Yj I3 ((x151.1 && r167), (x151.2.1 && r168), (w .i64 (x151.2.2 + 1))) h
 refine GC.exit_to (fun _ _ h => h) (Zo (Zm (Zm (Za (Za (GL.nil ?_))))))
 exact Y2 I3 ⟨x151.1, x151.2.1, rfl, h⟩
def QeF (C : Ctx) (p_l : Sl) (K : Sl → Heap → Prop) (H : Heap) : Prop :=
 ift (((Sl.len p_l : Int) : Int) == 0)
 (K Sl.nil H)
 (Qy C p_l (fun r2 H3 =>
 lp (α := Int) 0 H3 (fun x4 J5 H6 =>
 ift (decide ((x4 : Int) < (Sl.len r2 : Int)))
 (ixa r2 x4 fun p8 =>
 ldL H6 ((p8.1, p8.2 + (x4 : Int).toNat * 4).1, (p8.1, p8.2 + (x4 : Int).toNat * 4).2 + 3) fun x13 =>
 QbH C x13 (fun r15 H16 =>
 ixa r2 x4 fun p17 =>
 st ((p17.1, p17.2 + (x4 : Int).toNat * 4).1, (p17.1, p17.2 + (x4 : Int).toNat * 4).2 + 3) (slv r15) (fun H22 =>
 J5 (w .i64 (x4 + 1)) H22) H16) H6)
 (K r2 H6))) H)
theorem Qgn (C p_l K H) (h : QeF C p_l K H) : QbH C p_l K H := by
 refine Ye Tryz.func40 rfl Tryz.ntmps40 [(0, slv p_l)] (Zo (Za (GL.nil (GC.seq (Zo (Zm (Zq (Zi (.bool (((Sl.len p_l : Int) : Int) == 0)) (GL.nil (Yd h (fun u1 h => ?_) fun u1 h => ?_))))))))))
 refine Zo (Za (GL.nil ?_))
 exact Y1 I3 ⟨Sl.nil, rfl, h⟩
 refine GC.skip (Zo (Zm (Zc h Qam ?_)))
 rintro _ H3 ⟨r2, rfl, h⟩
 refine Za (GL.nil (GC.seq (Zo (Zm (Zq (Zm (GL.nil (GC.block (Yp h (fun x4 => [(12, .int .i64 x4), (3, slv r2), (11, .int .i64 (Sl.len r2 : Int))]) ?_)))))))))
 intro x4 H6 J5 h
 refine Zo (Zi (.bool (decide ((x4 : Int) < (Sl.len r2 : Int)))) (GL.nil (GC.seq (Yd h (fun u7 h => ?_) fun u7 h => ?_))))
 refine GC.skip (GC.seq (GC.block (Zo (Zm (Za (GL.nil (GC.region (Zm (Zm (Zm (Zm (Yx h fun p8 h => ?_))))))))))))
 refine Zf (Yl h fun x13 h => ?_)
 refine Zc h QeA ?_
 rintro _ H16 ⟨r15, rfl, h⟩
 refine Yx h fun p17 h => ?_
 refine Zf (GL.store (p := ((p17.1, p17.2 + (x4 : Int).toNat * 4).1, (p17.1, p17.2 + (x4 : Int).toNat * 4).2 + 3)) (v := slv r15) h trivial rfl rfl rfl rfl ?_)
 intro H22 h
 refine GL.nil_to (fun _ _ h => h) (GC.region (Zi (.int .i64 (w .i64 (x4 + 1))) (Zm ?_)))
 exact Yj I3 (w .i64 (x4 + 1)) h
 refine GC.exit_to (fun _ _ h => h) (Zo (Zm (Za (GL.nil ?_))))
 exact Y1 I3 ⟨r2, rfl, h⟩
def Qt (C : Ctx) (p_x : Sl) (p_cmp : Value) (K : Heap → Prop) (H : Heap) : Prop :=
 Q4 C p_x (Sl.len p_x : Int) p_cmp (fun H1 =>
 K H1) H
theorem QR (C p_x p_cmp K H) (h : Qt C p_x p_cmp K H) : Qk C p_x p_cmp K H := by
 refine Ye Tryz.func41 rfl Tryz.ntmps41 [(0, slv p_x), (1, p_cmp)] (GC.region (Zm (Zm (Zq (Zm (Zc h QbC ?_))))))
 rintro _ H1 ⟨rfl, h⟩
 exact GL.ends (fun _ _ hf hs => QO rfl hf hs ⟨rfl, h⟩)
def QB (C : Ctx) (p_s : Sl) (p_eq : Value) (K : Sl → Heap → Prop) (H : Heap) : Prop :=
 ift (decide (((Sl.len p_s : Int) : Int) < 2))
 (K p_s H)
 (lp (α := Int) 1 H (fun x2 J3 H4 =>
 ift (decide ((x2 : Int) < (Sl.len p_s : Int)))
 (dr H4 fun Hs6 =>
 ixa p_s x2 fun p8 =>
 ldL Hs6 (p8.1, p8.2 + (x2 : Int).toNat * 1) fun x13 =>
 ixa p_s (w .i64 (x2 - 1)) fun p15 =>
 ldL Hs6 (p15.1, p15.2 + (w .i64 (x2 - 1) : Int).toNat * 1) fun x20 =>
 callU Tryz.prog C p_eq [slv x13, slv x20] H4 (fun v H24 => ∃ (r23 : Bool), v = .bool r23 ∧
 Heap.le Hs6 H24 ∧
 ift r23
 (slL p_s x2 (Sl.len p_s : Int) (Sl.cap p_s : Int) 1 fun t26 =>
 lp (α := Int × Int) (x2, 1) H24 (fun x32 J33 H34 =>
 ift (decide ((x32.2 : Int) < (Sl.len t26 : Int)))
 (jn (α := Int) (fun x37 H38 =>
 J33 (x37, (w .i64 (x32.2 + 1))) H38)
 (fun J36 => dr H34 fun Hs40 =>
 ixa t26 x32.2 fun p42 =>
 ldL Hs40 (p42.1, p42.2 + (x32.2 : Int).toNat * 1) fun x47 =>
 ixa t26 (w .i64 (x32.2 - 1)) fun p49 =>
 ldL Hs40 (p49.1, p49.2 + (w .i64 (x32.2 - 1) : Int).toNat * 1) fun x54 =>
 callU Tryz.prog C p_eq [slv x47, slv x54] H34 (fun v H58 => ∃ (r57 : Bool), v = .bool r57 ∧
 Heap.le Hs40 H58 ∧
 ift (!r57)
 (ixa t26 x32.2 fun p60 =>
 ldL H58 (p60.1, p60.2 + (x32.2 : Int).toNat * 1) fun x65 =>
 ixa p_s x32.1 fun p67 =>
 st (p67.1, p67.2 + (x32.1 : Int).toNat * 1) (slv x65) (fun H72 =>
 J36 (w .i64 (x32.1 + 1)) H72) H58)
 (J36 x32.1 H58))))
 (slL p_s x32.1 (Sl.len p_s : Int) (Sl.cap p_s : Int) 1 fun t73 =>
 clr ([slv Sl.nil]) t73 (fun H79 =>
 slL p_s 0 x32.1 (Sl.cap p_s : Int) 1 fun t80 =>
 K t80 H79) H34)))
 (J3 (w .i64 (x2 + 1)) H24)))
 (K p_s H4)))
theorem Q6 (C p_s p_eq K H) (h : QB C p_s p_eq K H) : Qn C p_s p_eq K H := by
 refine Ye Tryz.func42 rfl Tryz.ntmps42 [(0, slv p_s), (1, p_eq)] (Zo (Za (GL.nil (GC.seq (Zo (Zm (Zq (Zi (.bool (decide (((Sl.len p_s : Int) : Int) < 2))) (GL.nil (Yd h (fun u1 h => ?_) fun u1 h => ?_))))))))))
 refine Zo (Zm (Za (GL.nil ?_)))
 exact Y1 I3 ⟨p_s, rfl, h⟩
 refine GC.skip (GC.seq (Zo (Za (GL.nil (GC.block (Yp h (fun x2 => [(5, .int .i64 x2), (0, slv p_s), (1, p_eq)]) ?_))))))
 intro x2 H4 J3 h
 refine GC.seq (Zo (Zm (Zm (Zq (Zi (.bool (decide ((x2 : Int) < (Sl.len p_s : Int)))) (GL.nil (Yd h (fun u5 h => ?_) fun u5 h => ?_)))))))
 refine GC.skip (GC.seq (GC.block (GC.seq ?_)))
 obtain ⟨Hs6, hle7, h⟩ := h
 refine GC.any (Hs := Hs6) (by kernel_rfl) hle7 (Zp 0 rfl Ym (Zp 1 rfl Ym (Zp 2 rfl Ym ?_)))
 obtain ⟨p8, ha9, hb10, u11, hd12, h⟩ := h
 refine Zp 3 rfl (OV.indexAddr rfl rfl rfl rfl ha9 hb10 u11 hd12) ?_
 obtain ⟨x13, v14, h⟩ := h
 refine Zp 4 rfl (Yo v14) (Zp 5 rfl Ym (Zp 6 rfl Ym (Zp 7 rfl (OV.ibin (v := .int .i64 (w .i64 (x2 - 1))) rfl rfl rfl) ?_)))
 obtain ⟨p15, ha16, hb17, u18, hd19, h⟩ := h
 refine Zp 8 rfl (OV.indexAddr rfl rfl rfl rfl ha16 hb17 u18 hd19) ?_
 obtain ⟨x20, v21, h⟩ := h
 refine Zp 9 rfl (Yo v21) (GA.eff 10 rfl (by kernel_rfl) (GL.callU (xv := p_eq) (vs := [slv x13, slv x20]) h trivial rfl rfl rfl ?_))
 rintro _ H24 ⟨r23, rfl, h⟩
 obtain ⟨hle22, h⟩ := h
 refine GA.back hle22 (GA.done (by kernel_rfl) (GL.nil (Yd h (fun u25 h => ?_) fun u25 h => ?_)))
 refine Zo (Zm (Zm ?_))
 obtain ⟨h27, h28, h29, h30, t26, h31, h⟩ := h
 refine Zv (OV.sliceSl (s := p_s) h27 h28 h29 h30 h31 rfl rfl rfl rfl rfl rfl rfl (fun h => by first | rfl | cases h) rfl rfl) (Za (GL.nil (GC.seq (Zo (Za (GL.nil (GC.block (Yp h (fun x32 => [(5, .int .i64 x32.1), (7, .int .i64 x32.2), (0, slv p_s), (1, p_eq), (6, slv t26)]) ?_))))))))
 intro x32 H34 J33 h
 refine GC.seq (Zo (Zm (Zm (Zq (Zi (.bool (decide ((x32.2 : Int) < (Sl.len t26 : Int)))) (GL.nil (Yd h (fun u35 h => ?_) fun u35 h => ?_)))))))
 refine GC.skip ?_
 obtain ⟨J36, h, hR39⟩ := h
 refine GC.join (α := Int) J36 (fun x37 => [(5, .int .i64 x37), (0, slv p_s), (1, p_eq), (6, slv t26), (7, .int .i64 x32.2)]) ?_ ?_
 refine GC.block (GC.seq ?_)
 obtain ⟨Hs40, hle41, h⟩ := h
 refine GC.any (Hs := Hs40) (by kernel_rfl) hle41 (Zp 0 rfl Ym (Zp 1 rfl Ym (Zp 2 rfl Ym ?_)))
 obtain ⟨p42, ha43, hb44, u45, hd46, h⟩ := h
 refine Zp 3 rfl (OV.indexAddr rfl rfl rfl rfl ha43 hb44 u45 hd46) ?_
 obtain ⟨x47, v48, h⟩ := h
 refine Zp 4 rfl (Yo v48) (Zp 5 rfl Ym (Zp 6 rfl Ym (Zp 7 rfl (OV.ibin (v := .int .i64 (w .i64 (x32.2 - 1))) rfl rfl rfl) ?_)))
 obtain ⟨p49, ha50, hb51, u52, hd53, h⟩ := h
 refine Zp 8 rfl (OV.indexAddr rfl rfl rfl rfl ha50 hb51 u52 hd53) ?_
 obtain ⟨x54, v55, h⟩ := h
 refine Zp 9 rfl (Yo v55) (GA.eff 10 rfl (by kernel_rfl) (GL.callU (xv := p_eq) (vs := [slv x47, slv x54]) h trivial rfl rfl rfl ?_))
 rintro _ H58 ⟨r57, rfl, h⟩
 obtain ⟨hle56, h⟩ := h
 refine GA.back hle56 (Zp 11 rfl (OV.not rfl) (GA.done (by kernel_rfl) (GL.nil (Yd h (fun u59 h => ?_) fun u59 h => ?_))))
 refine Zo (Zm (Zm (Zm (Zm (Yx h fun p60 h => ?_)))))
 refine Yl h fun x65 h => ?_
 refine Yx h fun p67 h => ?_
 refine GL.store (p := (p67.1, p67.2 + (x32.1 : Int).toNat * 1)) (v := slv x65) h trivial rfl rfl rfl rfl ?_
 intro H72 h
 refine GL.nil (GC.region (Zm (Zi (.int .i64 (w .i64 (x32.1 + 1))) (Za ?_))))
 exact Yj I3 (w .i64 (x32.1 + 1)) h
 exact Yk I3 x32.1 h
 intro x37 H38 h
 replace h := hR39 x37 H38 h
 refine GC.region (Zm (Zi (.int .i64 (w .i64 (x32.2 + 1))) (Za ?_)))
 exact Yj I3 (x37, (w .i64 (x32.2 + 1))) h
 refine GC.exit_to (fun _ _ h => h) (Zo (Zm (Zm ?_)))
 obtain ⟨h74, h75, h76, h77, t73, h78, h⟩ := h
 refine Zv (OV.sliceSl (s := p_s) h74 h75 h76 h77 h78 rfl rfl rfl rfl rfl rfl rfl (fun h => by first | rfl | cases h) rfl rfl) (GL.clear (s := t73) (zc := [slv Sl.nil]) (bytes := 24) h trivial rfl ⟨⟨_, _, _, rfl, rfl, rfl, rfl, rfl, rfl⟩⟩ rfl ?_)
 intro H79 h
 refine GL.nil (Zo (Zm (Zm ?_)))
 obtain ⟨h81, h82, h83, h84, t80, h85, h⟩ := h
 refine Zv (OV.sliceSl (s := p_s) h81 h82 h83 h84 h85 rfl rfl rfl rfl rfl rfl rfl (fun h => by first | rfl | cases h) rfl rfl) (Za (GL.nil ?_))
 exact Y1 I3 ⟨t80, rfl, h⟩
 refine GC.skip_to (fun _ _ h => h) (GC.region (Zm (Zi (.int .i64 (w .i64 (x2 + 1))) (Za ?_))))
 exact Yj I3 (w .i64 (x2 + 1)) h
 refine GC.exit_to (fun _ _ h => h) (Zo (Zm (Za (GL.nil ?_))))
 exact Y1 I3 ⟨p_s, rfl, h⟩
def Qc9 (C : Ctx) (p_a : Sl) (p_b : Sl) (K : Bool → Heap → Prop) (H : Heap) : Prop :=
 QG C p_a p_b (fun r1 H2 =>
 K ((r1 : Int) == 0) H2) H
theorem QeT (C p_a p_b K H) (h : Qc9 C p_a p_b K H) : Qdn C p_a p_b K H := by
 refine Ye Tryz.func43 rfl Tryz.ntmps43 [(0, slv p_a), (1, slv p_b)] (Zo (Za (GL.nil (Zo (Zm (Zm (Zc h Qat ?_)))))))
 rintro _ H2 ⟨r1, rfl, h⟩
 refine Zi (.bool ((r1 : Int) == 0)) (Za (GL.nil ?_))
 exact Y1 I3 ⟨((r1 : Int) == 0), rfl, h⟩
def QeH (C : Ctx) (p_parts : Sl) (K : Value → Heap → Prop) (H : Heap) : Prop :=
 nw ([slv p_parts]) (fun b1 H2 =>
 K (.func (.func 64) (List.toArray []) (List.toArray [pv (some (b1, 0))]) : Value) H2) H
theorem Qgp (C p_parts K H) (h : QeH C p_parts K H) : QeX C p_parts K H := by
 refine Ye Tryz.func44 rfl Tryz.ntmps44 [(0, slv p_parts)] (Zo (GL.box (v := slv p_parts) (cs := [slv p_parts]) h trivial rfl rfl rfl ?_))
 intro b1 H2 h
 refine Za (GL.nil (Zo (Zv (OV.makeFunc (vs := []) (us := [pv (some (b1, 0))]) rfl rfl) (Za (GL.nil ?_)))))
 exact Y1 I3 ⟨(.func (.func 64) (List.toArray []) (List.toArray [pv (some (b1, 0))]) : Value), rfl, h⟩
def Qw (C : Ctx) (p_s : Sl) (p_f : Value) (K : Bool → Heap → Prop) (H : Heap) : Prop :=
 QI C p_s p_f (fun r1 H2 =>
 K (decide ((r1 : Int) ≥ 0)) H2) H
theorem QY (C p_s p_f K H) (h : Qw C p_s p_f K H) : Qf C p_s p_f K H := by
 refine Ye Tryz.func45 rfl Tryz.ntmps45 [(0, slv p_s), (1, p_f)] (Zo (Za (GL.nil (Zo (Zm (Zm (Zc h Qa4 ?_)))))))
 rintro _ H2 ⟨r1, rfl, h⟩
 refine Zi (.bool (decide ((r1 : Int) ≥ 0))) (Za (GL.nil ?_))
 exact Y1 I3 ⟨(decide ((r1 : Int) ≥ 0)), rfl, h⟩
def Qdz (C : Ctx) (p_v : Qb) (K : Bool → Heap → Prop) (H : Heap) : Prop :=
 nw (Qb.c p_v) (fun b1 H2 =>
 ldT H2 Qb.c (b1, 0) fun x3 =>
 Qah C x3 (fun r5 H6 =>
 K ((r5 : Int) != 0) H6) H2) H
theorem Qfv (C p_v K H) (h : Qdz C p_v K H) : Qa9 C p_v K H := by
 refine Ye Tryz.func46 rfl Tryz.ntmps46 [(0, .agg (Qb.c p_v).toArray)] (Zo (GL.box (v := .agg (Qb.c p_v).toArray) (cs := Qb.c p_v) h trivial rfl rfl rfl ?_))
 intro b1 H2 h
 refine Za (GL.nil (Zo ?_))
 obtain ⟨x3, v4, h⟩ := h
 refine Zv (OV.loadT rfl rfl rfl v4) (Zc h Qcv ?_)
 rintro _ H6 ⟨r5, rfl, h⟩
 refine Zi (.bool ((r5 : Int) != 0)) (Za (GL.nil ?_))
 exact Y1 I3 ⟨((r5 : Int) != 0), rfl, h⟩
def Qhi (C : Ctx) (p_n : Int) (K : Bool → Heap → Prop) (H : Heap) : Prop :=
 K ((decide ((p_n : Int) < (-2147483647))) || (decide ((p_n : Int) > 2147483647))) H
theorem QgW (C p_n K H) (h : Qhi C p_n K H) : QbY C p_n K H := by
 refine Ye Tryz.func47 rfl Tryz.ntmps47 [(0, .int .i64 p_n)] (Zo (Za (GL.nil (Zo (Zm (Zi (.bool (decide ((p_n : Int) < (-2147483647)))) (Zm (GL.cut0 3 [(8, .bool ((decide ((p_n : Int) < (-2147483647))) || (decide ((p_n : Int) > 2147483647))))] ?_ ?_))))))))
 rcases Zb (decide ((p_n : Int) < (-2147483647))) with u1 | u1
 refine Zk u1 (Zk u1 (Zt u1 ?_))
 exact GL.jump0 (fun _ _ h => h) () rfl ⟨(by rw [u1]; rfl), trivial⟩
 refine Zu u1 Ym (Zu u1 (OV.ibin (v := .bool (decide ((p_n : Int) > 2147483647))) rfl rfl rfl) (Zn u1 ?_))
 exact GL.jump0 (fun _ _ h => h) () rfl ⟨(by rw [u1]; rfl), trivial⟩
 refine Za (GL.nil ?_)
 exact Y1 I3 ⟨((decide ((p_n : Int) < (-2147483647))) || (decide ((p_n : Int) > 2147483647))), rfl, h⟩
def Qr (C : Ctx) (p_x : Sl) (p_cmp : Value) (K : Heap → Prop) (H : Heap) : Prop :=
 QU C p_x (Sl.len p_x : Int) p_cmp (fun H1 =>
 K H1) H
theorem QN (C p_x p_cmp K H) (h : Qr C p_x p_cmp K H) : Qe C p_x p_cmp K H := by
 refine Ye Tryz.func48 rfl Tryz.ntmps48 [(0, slv p_x), (1, p_cmp)] (GC.region (Zm (Zm (Zq (Zm (Zc h Qbu ?_))))))
 rintro _ H1 ⟨rfl, h⟩
 exact GL.ends (fun _ _ hf hs => QO rfl hf hs ⟨rfl, h⟩)
def QdA (C : Ctx) (p_a : Qa) (p_b : Qa) (K : Int → Heap → Prop) (H : Heap) : Prop :=
 nw (Qa.c p_a) (fun b1 H2 =>
 nw (Qa.c p_b) (fun b3 H4 =>
 ldL H4 ((b1, 0).1, (b1, 0).2 + 0) fun x5 =>
 ldL H4 ((b3, 0).1, (b3, 0).2 + 0) fun x7 =>
 QG C x5 x7 (fun r9 H10 =>
 K r9 H10) H4) H2) H
theorem Qfw (C p_a p_b K H) (h : QdA C p_a p_b K H) : QaN C p_a p_b K H := by
 refine Ye Tryz.func49 rfl Tryz.ntmps49 [(0, .agg (Qa.c p_a).toArray), (1, .agg (Qa.c p_b).toArray)] (Zo (GL.box (v := .agg (Qa.c p_a).toArray) (cs := Qa.c p_a) h trivial rfl rfl rfl ?_))
 intro b1 H2 h
 refine GL.box (v := .agg (Qa.c p_b).toArray) (cs := Qa.c p_b) h trivial rfl rfl rfl ?_
 intro b3 H4 h
 refine Za (GL.nil (Zo (Zf (Yl h fun x5 h => ?_))))
 refine Zf (Yl h fun x7 h => ?_)
 refine Zc h Qat ?_
 rintro _ H10 ⟨r9, rfl, h⟩
 refine Za (GL.nil ?_)
 exact Y1 I3 ⟨r9, rfl, h⟩
def Qfg (C : Ctx) (p_l : Sl) (K : Sl → Heap → Prop) (H : Heap) : Prop :=
 ift (((Sl.len p_l : Int) : Int) == 0)
 (K Sl.nil H)
 (Qy C p_l (fun r2 H3 =>
 lp (α := Int) 0 H3 (fun x4 J5 H6 =>
 ift (decide ((x4 : Int) < (Sl.len r2 : Int)))
 (ixa r2 x4 fun p8 =>
 ldL H6 ((p8.1, p8.2 + (x4 : Int).toNat * 4).1, (p8.1, p8.2 + (x4 : Int).toNat * 4).2 + 3) fun x13 =>
 QbI C x13 (fun r15 H16 =>
 ixa r2 x4 fun p17 =>
 st ((p17.1, p17.2 + (x4 : Int).toNat * 4).1, (p17.1, p17.2 + (x4 : Int).toNat * 4).2 + 3) (slv r15) (fun H22 =>
 J5 (w .i64 (x4 + 1)) H22) H16) H6)
 (K r2 H6))) H)
theorem QgX (C p_l K H) (h : Qfg C p_l K H) : QbI C p_l K H := by
 refine Ye Tryz.func50 rfl Tryz.ntmps50 [(0, slv p_l)] (Zo (Za (GL.nil (GC.seq (Zo (Zm (Zq (Zi (.bool (((Sl.len p_l : Int) : Int) == 0)) (GL.nil (Yd h (fun u1 h => ?_) fun u1 h => ?_))))))))))
 refine Zo (Za (GL.nil ?_))
 exact Y1 I3 ⟨Sl.nil, rfl, h⟩
 refine GC.skip (Zo (Zm (Zc h Qam ?_)))
 rintro _ H3 ⟨r2, rfl, h⟩
 refine Za (GL.nil (GC.seq (Zo (Zm (Zq (Zm (GL.nil (GC.block (Yp h (fun x4 => [(11, .int .i64 x4), (0, slv r2), (10, .int .i64 (Sl.len r2 : Int))]) ?_)))))))))
 intro x4 H6 J5 h
 refine Zo (Zi (.bool (decide ((x4 : Int) < (Sl.len r2 : Int)))) (GL.nil (GC.seq (Yd h (fun u7 h => ?_) fun u7 h => ?_))))
 refine GC.skip (GC.seq (GC.block (Zo (Zm (Za (GL.nil (GC.region (Zm (Zm (Zm (Zm (Yx h fun p8 h => ?_))))))))))))
 refine Zf (Yl h fun x13 h => ?_)
 refine Zc h Qfb ?_
 rintro _ H16 ⟨r15, rfl, h⟩
 refine Yx h fun p17 h => ?_
 refine Zf (GL.store (p := ((p17.1, p17.2 + (x4 : Int).toNat * 4).1, (p17.1, p17.2 + (x4 : Int).toNat * 4).2 + 3)) (v := slv r15) h trivial rfl rfl rfl rfl ?_)
 intro H22 h
 refine GL.nil_to (fun _ _ h => h) (GC.region (Zi (.int .i64 (w .i64 (x4 + 1))) (Zm ?_)))
 exact Yj I3 (w .i64 (x4 + 1)) h
 refine GC.exit_to (fun _ _ h => h) (Zo (Zm (Za (GL.nil ?_))))
 exact Y1 I3 ⟨r2, rfl, h⟩
def Qeb (C : Ctx) (p_a : Qb) (p_b : Qb) (K : Bool → Heap → Prop) (H : Heap) : Prop :=
 nw (Qb.c p_a) (fun b1 H2 =>
 nw (Qb.c p_b) (fun b3 H4 =>
 ldI H4 .u8 ((b1, 0).1, (b1, 0).2 + 0) fun x5 =>
 ldI H4 .u8 ((b3, 0).1, (b3, 0).2 + 0) fun x7 =>
 jn (α := Bool) (fun b9 H17 =>
 jn (α := Bool) (fun b18 H26 =>
 jn (α := Bool) (fun b27 H37 =>
 K b27 H37)
 (fun J28 => ift b18
 (ldL H26 ((b1, 0).1, (b1, 0).2 + 3) fun x31 =>
 ldL H26 ((b3, 0).1, (b3, 0).2 + 3) fun x33 =>
 QaH C x31 x33 (fun r35 H36 =>
 J28 r35 H36) H26)
 (J28 false H26)))
 (fun J19 => ift b9
 (ldS H17 ((b1, 0).1, (b1, 0).2 + 2) fun x22 =>
 ldS H17 ((b3, 0).1, (b3, 0).2 + 2) fun x24 =>
 J19 (x22 == x24) H17)
 (J19 false H17)))
 (fun J10 => ift ((x5 : Int) == x7)
 (ldI H4 .i64 ((b1, 0).1, (b1, 0).2 + 1) fun x13 =>
 ldI H4 .i64 ((b3, 0).1, (b3, 0).2 + 1) fun x15 =>
 J10 ((x13 : Int) == x15) H4)
 (J10 false H4))) H2) H
theorem QfX (C p_a p_b K H) (h : Qeb C p_a p_b K H) : Qaw C p_a p_b K H := by
 refine Ye Tryz.func53 rfl Tryz.ntmps53 [(0, .agg (Qb.c p_a).toArray), (1, .agg (Qb.c p_b).toArray)] (Zo (GL.box (v := .agg (Qb.c p_a).toArray) (cs := Qb.c p_a) h trivial rfl rfl rfl ?_))
 intro b1 H2 h
 refine GL.box (v := .agg (Qb.c p_b).toArray) (cs := Qb.c p_b) h trivial rfl rfl rfl ?_
 intro b3 H4 h
 refine Za (GL.nil (Zo (Zf (Yl h fun x5 h => ?_))))
 refine Zf (Yl h fun x7 h => ?_)
 refine Zi (.bool ((x5 : Int) == x7)) (Zm ?_)
 obtain ⟨J10, h, hR11⟩ := h
 refine GL.cut (α := Bool) 6 J10 (fun b9 => [(16, .bool b9), (2, pv (some (b1, 0))), (3, pv (some (b3, 0)))]) ?_ ?_
 rcases h.em with ⟨u12, h⟩ | ⟨u12, h⟩
 refine Zu u12 Yf ?_
 obtain ⟨x13, v14, h⟩ := h
 refine Zu u12 (Yo v14) (Zu u12 Yf ?_)
 obtain ⟨x15, v16, h⟩ := h
 refine Zu u12 (Yo v16) (Zu u12 (OV.ibin (v := .bool ((x13 : Int) == x15)) rfl rfl rfl) (Zt u12 ?_))
 exact Yj I3 ((x13 : Int) == x15) h
 refine Zk u12 (Zk u12 (Zk u12 (Zk u12 (Zk u12 (Zn u12 ?_)))))
 exact Yj I3 false h
 intro b9 H17 h
 replace h := hR11 b9 H17 h
 refine Zm ?_
 obtain ⟨J19, h, hR20⟩ := h
 refine GL.cut (α := Bool) 6 J19 (fun b18 => [(23, .bool b18), (2, pv (some (b1, 0))), (3, pv (some (b3, 0)))]) ?_ ?_
 rcases h.em with ⟨u21, h⟩ | ⟨u21, h⟩
 refine Zu u21 Yf ?_
 obtain ⟨x22, v23, h⟩ := h
 refine Zu u21 (Yo v23) (Zu u21 Yf ?_)
 obtain ⟨x24, v25, h⟩ := h
 refine Zu u21 (Yo v25) (Zu u21 (OV.sbin (a := x22) (b := x24) (v := .bool (x22 == x24)) rfl rfl rfl) (Zt u21 ?_))
 exact Yj I3 (x22 == x24) h
 refine Zk u21 (Zk u21 (Zk u21 (Zk u21 (Zk u21 (Zn u21 ?_)))))
 exact Yj I3 false h
 intro b18 H26 h
 replace h := hR20 b18 H26 h
 refine Zm ?_
 obtain ⟨J28, h, hR29⟩ := h
 refine GL.cut (α := Bool) 6 J28 (fun b27 => [(30, .bool b27)]) ?_ ?_
 rcases h.em with ⟨u30, h⟩ | ⟨u30, h⟩
 refine Zu u30 Yf ?_
 obtain ⟨x31, v32, h⟩ := h
 refine Zu u30 (Yo v32) (Zu u30 Yf ?_)
 obtain ⟨x33, v34, h⟩ := h
 refine Zu u30 (Yo v34) (GL.call h (Yt u30) rfl QbQ (vs := [slv x31, slv x33]) rfl ?_)
 rintro _ H36 ⟨r35, rfl, h⟩
 refine Zt u30 ?_
 exact Yj I3 r35 h
 refine Zk u30 (Zk u30 (Zk u30 (Zk u30 (Zk u30 (Zn u30 ?_)))))
 exact Yj I3 false h
 intro b27 H37 h
 replace h := hR29 b27 H37 h
 refine Za (GL.nil ?_)
 exact Y1 I3 ⟨b27, rfl, h⟩
def Qdx (C : Ctx) (p_v : Qb) (K : Bool → Heap → Prop) (H : Heap) : Prop :=
 nw (Qb.c p_v) (fun b1 H2 =>
 ldT H2 Qb.c (b1, 0) fun x3 =>
 Qah C x3 (fun r5 H6 =>
 K ((r5 : Int) != 0) H6) H2) H
theorem Qft (C p_v K H) (h : Qdx C p_v K H) : QaM C p_v K H := by
 refine Ye Tryz.func54 rfl Tryz.ntmps54 [(0, .agg (Qb.c p_v).toArray)] (Zo (GL.box (v := .agg (Qb.c p_v).toArray) (cs := Qb.c p_v) h trivial rfl rfl rfl ?_))
 intro b1 H2 h
 refine Za (GL.nil (Zo ?_))
 obtain ⟨x3, v4, h⟩ := h
 refine Zv (OV.loadT rfl rfl rfl v4) (Zc h Qcv ?_)
 rintro _ H6 ⟨r5, rfl, h⟩
 refine Zi (.bool ((r5 : Int) != 0)) (Za (GL.nil ?_))
 exact Y1 I3 ⟨((r5 : Int) != 0), rfl, h⟩
def Qq (C : Ctx) (p_s1 : Sl) (p_s2 : Sl) (p_cmp : Value) (K : Int → Heap → Prop) (H : Heap) : Prop :=
 lp (α := Int) 0 H (fun x1 J2 H3 =>
 ift (decide ((x1 : Int) < (Sl.len p_s1 : Int)))
 (ixa p_s1 x1 fun p5 =>
 ldT H3 Qb.c (p5.1, p5.2 + (x1 : Int).toNat * 4) fun x10 =>
 nw (Qb.c Qb.zero) (fun b12 H13 =>
 stT (b12, 0) (Qb.c x10) (fun H14 =>
 ift (decide ((x1 : Int) ≥ (Sl.len p_s2 : Int)))
 (K 1 H14)
 (ixa p_s2 x1 fun p16 =>
 ldT H14 Qb.c (p16.1, p16.2 + (x1 : Int).toNat * 4) fun x21 =>
 nw (Qb.c Qb.zero) (fun b23 H24 =>
 stT (b23, 0) (Qb.c x21) (fun H25 =>
 ldT H25 Qb.c (b12, 0) fun x26 =>
 ldT H25 Qb.c (b23, 0) fun x28 =>
 callU Tryz.prog C p_cmp [.agg (Qb.c x26).toArray, .agg (Qb.c x28).toArray] H25 (fun v H31 => ∃ (r30 : Int), v = .int .i64 r30 ∧
 ift ((r30 : Int) != 0)
 (K r30 H31)
 (J2 (w .i64 (x1 + 1)) H31))) H24) H14)) H13) H3)
 (ift (decide (((Sl.len p_s1 : Int) : Int) < (Sl.len p_s2 : Int)))
 (K (-1) H3)
 (K 0 H3)))
theorem Q1 (C p_s1 p_s2 p_cmp K H) (h : Qq C p_s1 p_s2 p_cmp K H) : Qd C p_s1 p_s2 p_cmp K H := by
 refine Ye Tryz.func55 rfl Tryz.ntmps55 [(0, slv p_s1), (1, slv p_s2), (2, p_cmp)] (Zo (Za (GL.nil (GC.seq (Zo (Zm (Zq (Zm (GL.nil (GC.block (Yp h (fun x1 => [(13, .int .i64 x1), (0, slv p_s1), (1, slv p_s2), (2, p_cmp), (11, slv p_s1), (12, .int .i64 (Sl.len p_s1 : Int))]) ?_)))))))))))
 intro x1 H3 J2 h
 refine Zo (Zi (.bool (decide ((x1 : Int) < (Sl.len p_s1 : Int)))) (GL.nil (GC.seq (Yd h (fun u4 h => ?_) fun u4 h => ?_))))
 refine GC.skip (GC.seq (GC.block (Zo (Zm (Yx h fun p5 h => ?_)))))
 obtain ⟨x10, v11, h⟩ := h
 refine Zv (OV.loadT rfl rfl rfl v11) (GL.alloc (cs := Qb.c Qb.zero) h trivial rfl rfl rfl ?_)
 intro b12 H13 h
 refine Za (GL.storeT (p := (b12, 0)) (vs := Qb.c x10) h trivial rfl rfl rfl rfl ?_)
 intro H14 h
 refine GL.nil (GC.seq (Zo (Zm (Zm (Zq (Zi (.bool (decide ((x1 : Int) ≥ (Sl.len p_s2 : Int)))) (GL.nil (Yd h (fun u15 h => ?_) fun u15 h => ?_))))))))
 refine Zo (Za (GL.nil ?_))
 exact Y1 I3 ⟨1, rfl, h⟩
 refine GC.skip (Zo (Zm (Zm (Yx h fun p16 h => ?_))))
 obtain ⟨x21, v22, h⟩ := h
 refine Zv (OV.loadT rfl rfl rfl v22) (GL.alloc (cs := Qb.c Qb.zero) h trivial rfl rfl rfl ?_)
 intro b23 H24 h
 refine GL.storeT (p := (b23, 0)) (vs := Qb.c x21) h trivial rfl rfl rfl rfl ?_
 intro H25 h
 refine GL.nil (Zo (Zm ?_))
 obtain ⟨x26, v27, h⟩ := h
 refine Zv (OV.loadT rfl rfl rfl v27) ?_
 obtain ⟨x28, v29, h⟩ := h
 refine Zv (OV.loadT rfl rfl rfl v29) (GL.callU (xv := p_cmp) (vs := [.agg (Qb.c x26).toArray, .agg (Qb.c x28).toArray]) h trivial rfl rfl rfl ?_)
 rintro _ H31 ⟨r30, rfl, h⟩
 refine Za (GL.nil (Zo (Zm (Zi (.bool ((r30 : Int) != 0)) (GL.nil (Yd h (fun u32 h => ?_) fun u32 h => ?_))))))
 refine Zo (Zm (Za (GL.nil ?_)))
 exact Y1 I3 ⟨r30, rfl, h⟩
 refine GC.skip_to (fun _ _ h => h) (GC.region (Zi (.int .i64 (w .i64 (x1 + 1))) (Zm ?_)))
 exact Yj I3 (w .i64 (x1 + 1)) h
 refine GC.exit_to (fun _ _ h => h) (GC.seq (Zo (Zm (Zq (Zm (Zq (Zi (.bool (decide (((Sl.len p_s1 : Int) : Int) < (Sl.len p_s2 : Int)))) (GL.nil ?_))))))))
 refine Yd h (fun u33 h => ?_) fun u33 h => ?_
 refine Zo (Za (GL.nil ?_))
 exact Y1 I3 ⟨(-1), rfl, h⟩
 refine GC.skip (Zo (Za (GL.nil ?_)))
 exact Y1 I3 ⟨0, rfl, h⟩
def Qdb (C : Ctx) (p_x : Qb) (p_y : Qb) (K : Int → Heap → Prop) (H : Heap) : Prop :=
 nw (Qb.c p_x) (fun b1 H2 =>
 nw (Qb.c p_y) (fun b3 H4 =>
 ldT H4 Qb.c (b1, 0) fun x5 =>
 ldT H4 Qb.c (b3, 0) fun x7 =>
 QM C x5 x7 (fun r9 H10 =>
 K r9 H10) H4) H2) H
theorem QeV (C p_x p_y K H) (h : Qdb C p_x p_y K H) : QaS C p_x p_y K H := by
 refine Ye Tryz.func56 rfl Tryz.ntmps56 [(0, .agg (Qb.c p_x).toArray), (1, .agg (Qb.c p_y).toArray)] (Zo (GL.box (v := .agg (Qb.c p_x).toArray) (cs := Qb.c p_x) h trivial rfl rfl rfl ?_))
 intro b1 H2 h
 refine GL.box (v := .agg (Qb.c p_y).toArray) (cs := Qb.c p_y) h trivial rfl rfl rfl ?_
 intro b3 H4 h
 refine Za (GL.nil (Zo ?_))
 obtain ⟨x5, v6, h⟩ := h
 refine Zv (OV.loadT rfl rfl rfl v6) ?_
 obtain ⟨x7, v8, h⟩ := h
 refine Zv (OV.loadT rfl rfl rfl v8) (Zc h Qeq ?_)
 rintro _ H10 ⟨r9, rfl, h⟩
 refine Za (GL.nil ?_)
 exact Y1 I3 ⟨r9, rfl, h⟩
def QcE (C : Ctx) (p_v : Qb) (p_w : Qb) (K : Int → Heap → Prop) (H : Heap) : Prop :=
 nw (Qb.c p_v) (fun b1 H2 =>
 nw (Qb.c p_w) (fun b3 H4 =>
 ldI H4 .u8 ((b1, 0).1, (b1, 0).2 + 0) fun x5 =>
 ldI H4 .u8 ((b3, 0).1, (b3, 0).2 + 0) fun x7 =>
 Qbm C x5 x7 (fun r9 H10 =>
 ift ((r9 : Int) != 0)
 (K r9 H10)
 (ldI H10 .u8 ((b1, 0).1, (b1, 0).2 + 0) fun x12 =>
 ift ((x12 : Int) == 3)
 (ldS H10 ((b1, 0).1, (b1, 0).2 + 2) fun x15 =>
 ldS H10 ((b3, 0).1, (b3, 0).2 + 2) fun x17 =>
 Qax C x15 x17 (fun r19 H20 =>
 K r19 H20) H10)
 (ift ((x12 : Int) == 4)
 (ldS H10 ((b1, 0).1, (b1, 0).2 + 2) fun x22 =>
 ldS H10 ((b3, 0).1, (b3, 0).2 + 2) fun x24 =>
 Qae C x22 x24 (fun r26 H27 =>
 K r26 H27) H10)
 (dr H10 fun Hs28 =>
 ldI Hs28 .i64 ((b1, 0).1, (b1, 0).2 + 1) fun x30 =>
 ldI Hs28 .i64 ((b3, 0).1, (b3, 0).2 + 1) fun x32 =>
 ldS Hs28 ((b1, 0).1, (b1, 0).2 + 2) fun x34 =>
 ldS Hs28 ((b3, 0).1, (b3, 0).2 + 2) fun x36 =>
 ldL Hs28 ((b1, 0).1, (b1, 0).2 + 3) fun x38 =>
 ldL Hs28 ((b3, 0).1, (b3, 0).2 + 3) fun x40 =>
 Qbl C x30 x32 (fun r43 H44 =>
 Heap.le Hs28 H44 ∧
 Qae C x34 x36 (fun r46 H47 =>
 Heap.le Hs28 H47 ∧
 QbK C x38 x40 (fun r49 H50 =>
 Heap.le Hs28 H50 ∧
 nw ([.int .i64 r43, .int .i64 r46, .int .i64 r49]) (fun b52 H53 =>
 Heap.le Hs28 H53 ∧
 Qcg C (Sl.of (some (b52, 0)) 3 3) (fun r55 H56 =>
 Heap.le Hs28 H56 ∧
 K r55 H56) H53) H50) H47) H44) H10)))) H4) H2) H
theorem Qem (C p_v p_w K H) (h : QcE C p_v p_w K H) : QM C p_v p_w K H := by
 refine Ye Tryz.func57 rfl Tryz.ntmps57 [(0, .agg (Qb.c p_v).toArray), (1, .agg (Qb.c p_w).toArray)] (Zo (GL.box (v := .agg (Qb.c p_v).toArray) (cs := Qb.c p_v) h trivial rfl rfl rfl ?_))
 intro b1 H2 h
 refine GL.box (v := .agg (Qb.c p_w).toArray) (cs := Qb.c p_w) h trivial rfl rfl rfl ?_
 intro b3 H4 h
 refine Za (GL.nil (GC.seq (Zo (Zf (Yl h fun x5 h => ?_)))))
 refine Zf (Yl h fun x7 h => ?_)
 refine Zc h Qdm ?_
 rintro _ H10 ⟨r9, rfl, h⟩
 refine Za (GL.nil (Zo (Zm (Zi (.bool ((r9 : Int) != 0)) (GL.nil (Yd h (fun u11 h => ?_) fun u11 h => ?_))))))
 refine Zo (Zm (Za (GL.nil ?_)))
 exact Y1 I3 ⟨r9, rfl, h⟩
 refine GC.skip (GC.seq (Zo (Zf (Yl h fun x12 h => ?_))))
 refine GL.nil (GC.block (Zo (Zi (.bool ((x12 : Int) == 3)) (Za (GL.nil (Yd h (fun u14 h => ?_) fun u14 h => ?_))))))
 refine Zo (Zf (Yl h fun x15 h => ?_))
 refine Zf (Yl h fun x17 h => ?_)
 refine Zc h Qd0 ?_
 rintro _ H20 ⟨r19, rfl, h⟩
 refine Za (GL.nil ?_)
 exact Y1 I3 ⟨r19, rfl, h⟩
 refine Zo (Zi (.bool ((x12 : Int) == 4)) (Za (GL.nil (Yd h (fun u21 h => ?_) fun u21 h => ?_))))
 refine Zo (Zf (Yl h fun x22 h => ?_))
 refine Zf (Yl h fun x24 h => ?_)
 refine Zc h Qa3 ?_
 rintro _ H27 ⟨r26, rfl, h⟩
 refine Za (GL.nil ?_)
 exact Y1 I3 ⟨r26, rfl, h⟩
 refine GC.skip_to (fun _ _ h => h) (GC.seq ?_)
 obtain ⟨Hs28, hle29, h⟩ := h
 refine GC.any (Hs := Hs28) (by kernel_rfl) hle29 (Zp 0 rfl Yf ?_)
 obtain ⟨x30, v31, h⟩ := h
 refine Zp 1 rfl (Yo v31) (Zp 2 rfl Yf ?_)
 obtain ⟨x32, v33, h⟩ := h
 refine Zp 3 rfl (Yo v33) (Zp 5 rfl Yf ?_)
 obtain ⟨x34, v35, h⟩ := h
 refine Zp 6 rfl (Yo v35) (Zp 7 rfl Yf ?_)
 obtain ⟨x36, v37, h⟩ := h
 refine Zp 8 rfl (Yo v37) (Zp 10 rfl Yf ?_)
 obtain ⟨x38, v39, h⟩ := h
 refine Zp 11 rfl (Yo v39) (Zp 12 rfl Yf ?_)
 obtain ⟨x40, v41, h⟩ := h
 refine Zp 13 rfl (Yo v41) (GA.eff 4 rfl (by kernel_rfl) (Zc h Qdl ?_))
 rintro _ H44 ⟨r43, rfl, h⟩
 obtain ⟨hle42, h⟩ := h
 refine GA.back hle42 (GA.eff 9 rfl (by kernel_rfl) (Zc h Qa3 ?_))
 rintro _ H47 ⟨r46, rfl, h⟩
 obtain ⟨hle45, h⟩ := h
 refine GA.back hle45 (GA.eff 14 rfl (by kernel_rfl) (Zc h Qd2 ?_))
 rintro _ H50 ⟨r49, rfl, h⟩
 obtain ⟨hle48, h⟩ := h
 refine GA.back hle48 (GA.eff 15 rfl (by kernel_rfl) (GL.buildSlice (cs := [.int .i64 r43, .int .i64 r46, .int .i64 r49]) h trivial rfl (vs := [(0, .int .i64 r43), (1, .int .i64 r46), (2, .int .i64 r49)]) rfl ⟨3, fun _ => by kernel_rfl⟩ ?_))
 intro b52 H53 h
 obtain ⟨hle51, h⟩ := h
 refine GA.back hle51 (GA.eff 16 rfl (by kernel_rfl) (Zc h QdX ?_))
 rintro _ H56 ⟨r55, rfl, h⟩
 obtain ⟨hle54, h⟩ := h
 refine GA.back hle54 (Zp 17 rfl Ya (GA.done (by kernel_rfl) (GL.nil ?_)))
 exact Y1 I3 ⟨r55, rfl, h⟩
def Q9 (C : Ctx) (p_s : Sl) (p_f : Value) (K : Int → Heap → Prop) (H : Heap) : Prop :=
 lp (α := Int) 0 H (fun x1 J2 H3 =>
 ift (decide ((x1 : Int) < (Sl.len p_s : Int)))
 (ixa p_s x1 fun p5 =>
 ldT H3 Qa.c (p5.1, p5.2 + (x1 : Int).toNat * 2) fun x10 =>
 callU Tryz.prog C p_f [.agg (Qa.c x10).toArray] H3 (fun v H13 => ∃ (r12 : Bool), v = .bool r12 ∧
 ift r12
 (K x1 H13)
 (J2 (w .i64 (x1 + 1)) H13)))
 (K (-1) H3))
theorem QaT (C p_s p_f K H) (h : Q9 C p_s p_f K H) : QD C p_s p_f K H := by
 refine Ye Tryz.func58 rfl Tryz.ntmps58 [(0, slv p_s), (1, p_f)] (Zo (Za (GL.nil (GC.seq (Zo (Zm (Zq (Zm (GL.nil (GC.block (Yp h (fun x1 => [(8, .int .i64 x1), (0, slv p_s), (1, p_f), (7, .int .i64 (Sl.len p_s : Int))]) ?_)))))))))))
 intro x1 H3 J2 h
 refine Zo (Zi (.bool (decide ((x1 : Int) < (Sl.len p_s : Int)))) (GL.nil (GC.seq (Yd h (fun u4 h => ?_) fun u4 h => ?_))))
 refine GC.skip (GC.seq (GC.block (Zo (Zm (Za (GL.nil (Zo (Zm (Zm (Zm (Yx h fun p5 h => ?_)))))))))))
 obtain ⟨x10, v11, h⟩ := h
 refine Zv (OV.loadT rfl rfl rfl v11) (GL.callU (xv := p_f) (vs := [.agg (Qa.c x10).toArray]) h trivial rfl rfl rfl ?_)
 rintro _ H13 ⟨r12, rfl, h⟩
 refine GL.nil (Yd h (fun u14 h => ?_) fun u14 h => ?_)
 refine Zo (Zm (Za (GL.nil ?_)))
 exact Y1 I3 ⟨x1, rfl, h⟩
 refine GC.skip_to (fun _ _ h => h) (GC.region (Zi (.int .i64 (w .i64 (x1 + 1))) (Zm ?_)))
 exact Yj I3 (w .i64 (x1 + 1)) h
 refine GC.exit_to (fun _ _ h => h) (Zo (Za (GL.nil ?_)))
 exact Y1 I3 ⟨(-1), rfl, h⟩
def Qda (C : Ctx) (p_s : Str) (K : Int → Bool → Heap → Prop) (H : Heap) : Prop :=
 QX C p_s [45] (fun r1 H2 =>
 jn (α := Bool) (fun b3 H9 =>
 jn (α := Bool) (fun b10 H18 =>
 ift b10
 (K 0 false H18)
 (K (List.length r1 : Int) true H18))
 (fun J11 => ift b3
 (J11 true H9)
 (ixs r1 0 fun c14 =>
 J11 ((((c14.toNat : Int) : Int) == 48) && (!(p_s == ([48] : Str)))) H9)))
 (fun J4 => ift (r1 == ([] : Str))
 (J4 true H2)
 (QaF C r1 [48, 49, 50, 51, 52, 53, 54, 55, 56, 57] (fun r7 H8 =>
 J4 (!(r7 == ([] : Str))) H8) H2))) H
theorem QeU (C p_s K H) (h : Qda C p_s K H) : Qct C p_s K H := by
 refine Ye Tryz.func59 rfl Tryz.ntmps59 [(0, sv p_s)] (Zo (Za (Za (GL.nil (Zo (Zm (Zc h Qc4 ?_)))))))
 rintro _ H2 ⟨r1, rfl, h⟩
 refine Za (GL.nil (GC.seq (Zo (Zm (Zv (OV.sbin (a := r1) (b := ([] : Str)) (v := .bool (r1 == ([] : Str))) rfl rfl rfl) (Zm ?_))))))
 obtain ⟨J4, h, hR5⟩ := h
 refine GL.cut (α := Bool) 4 J4 (fun b3 => [(13, .bool b3), (0, sv p_s), (4, sv r1)]) ?_ ?_
 rcases h.em with ⟨u6, h⟩ | ⟨u6, h⟩
 refine Zk u6 (Zk u6 (Zk u6 (Zt u6 ?_)))
 exact Yj I3 true h
 refine Zu u6 Ym (GL.call h (Yt u6) rfl Qe6 (vs := [sv r1, sv [48, 49, 50, 51, 52, 53, 54, 55, 56, 57]]) rfl ?_)
 rintro _ H8 ⟨r7, rfl, h⟩
 refine Zu u6 (OV.sbin (a := r7) (b := ([] : Str)) (v := .bool (!(r7 == ([] : Str)))) rfl rfl rfl) (Zn u6 ?_)
 exact Yj I3 (!(r7 == ([] : Str))) h
 intro b3 H9 h
 replace h := hR5 b3 H9 h
 refine Zm ?_
 obtain ⟨J11, h, hR12⟩ := h
 refine GL.cut (α := Bool) 8 J11 (fun b10 => [(22, .bool b10), (4, sv r1)]) ?_ ?_
 rcases h.em with ⟨u13, h⟩ | ⟨u13, h⟩
 refine Zk u13 (Zk u13 (Zk u13 (Zk u13 (GL.skip ⟨_, rfl, .inr rfl⟩ rfl (GL.skip ⟨_, rfl, .inr rfl⟩ rfl (Zk u13 (Zt u13 ?_)))))))
 exact Yj I3 true h
 refine Zu u13 Ym ?_
 obtain ⟨c14, ha15, hb16, h⟩ := h
 refine Zu u13 (OV.indexStr rfl rfl rfl ha15 hb16) (Zu u13 (OV.ibin (v := .bool (((c14.toNat : Int) : Int) == 48)) rfl rfl rfl) (Zu u13 Ym (GL.cut0 3 [(21, .bool ((((c14.toNat : Int) : Int) == 48) && (!(p_s == ([48] : Str))))), (4, sv r1), (14, .bool b3)] ?_ ?_)))
 rcases Zb (((c14.toNat : Int) : Int) == 48) with u17 | u17
 refine Zu u17 Ym (Zu u17 (OV.sbin (a := p_s) (b := ([48] : Str)) (v := .bool (!(p_s == ([48] : Str)))) rfl rfl rfl) (Zu u13 (OV.pickT rfl u17 rfl) ?_))
 exact GL.jump0 (fun _ _ h => h) () rfl ⟨(by rw [u17]; rfl), rfl, rfl, trivial⟩
 refine Zk u17 (Zk u17 (Zu u13 (OV.pickF rfl u17 rfl) ?_))
 exact GL.jump0 (fun _ _ h => h) () rfl ⟨(by rw [u17]; rfl), rfl, rfl, trivial⟩
 refine Zn u13 ?_
 exact Yj I3 ((((c14.toNat : Int) : Int) == 48) && (!(p_s == ([48] : Str)))) h
 intro b10 H18 h
 replace h := hR12 b10 H18 h
 refine GL.nil (Yd h (fun u19 h => ?_) fun u19 h => ?_)
 refine Zo (Za (Za (GL.nil ?_)))
 exact Y2 I3 ⟨0, false, rfl, h⟩
 refine GC.skip (Zo (Zm (Zr (Za (Za (GL.nil ?_))))))
 exact Y2 I3 ⟨(List.length r1 : Int), true, rfl, h⟩
def Qdu (C : Ctx) (p_s : Str) (p_sep : Str) (K : Str → Str → Bool → Heap → Prop) (H : Heap) : Prop :=
 Qba C p_s p_sep (fun r1 r2 r3 H4 =>
 K r1 r2 r3 H4) H
theorem Qfq (C p_s p_sep K H) (h : Qdu C p_s p_sep K H) : QcJ C p_s p_sep K H := by
 refine Ye Tryz.func60 rfl Tryz.ntmps60 [(0, sv p_s), (1, sv p_sep)] (Zo (Za (Za (Za (GL.nil (Zo (Zm (Zm (Zc h Qb4 ?_)))))))))
 rintro _ H4 ⟨r1, r2, r3, rfl, h⟩
 refine Yv (sv r1) rfl rfl (Yv (sv r2) rfl rfl (Yv (.bool r3) rfl rfl (Za (Za (Za (GL.nil ?_))))))
 exact Y3 I3 ⟨r1, r2, r3, rfl, h⟩
def Qef (C : Ctx) (p_s : Str) (K : Bool → Heap → Prop) (H : Heap) : Prop :=
 jn (α := Bool) (fun b2 H9 =>
 jn (α := Bool) (fun b10 H17 =>
 ift b10
 (K false H17)
 (lp (α := Int) 0 H17 (fun x19 J20 H21 =>
 ift (decide ((x19 : Int) < (List.length p_s : Int)))
 (ixs p_s x19 fun c23 =>
 ift (!(((((decide (((c23.toNat : Int) : Int) ≥ 97)) && (decide (((c23.toNat : Int) : Int) ≤ 122))) || ((decide (((c23.toNat : Int) : Int) ≥ 65)) && (decide (((c23.toNat : Int) : Int) ≤ 90)))) || ((decide (((c23.toNat : Int) : Int) ≥ 48)) && (decide (((c23.toNat : Int) : Int) ≤ 57)))) || (((c23.toNat : Int) : Int) == 95)))
 (K false H21)
 (J20 (w .i64 (x19 + 1)) H21))
 (K true H21))))
 (fun J11 => ift b2
 (J11 true H9)
 (ixs p_s 0 fun c14 =>
 J11 (decide (((c14.toNat : Int) : Int) > 122)) H9)))
 (fun J3 => ift ((p_s == ([] : Str)) || (decide (((List.length p_s : Int) : Int) > 32)))
 (J3 true H)
 (ixs p_s 0 fun c6 =>
 J3 (decide (((c6.toNat : Int) : Int) < 97)) H))
theorem Qf1 (C p_s K H) (h : Qef C p_s K H) : Qbn C p_s K H := by
 refine Ye Tryz.func61 rfl Tryz.ntmps61 [(0, sv p_s)] (Zo (Za (GL.nil (GC.seq (Zo (Zm (Zv (OV.sbin (a := p_s) (b := ([] : Str)) (v := .bool (p_s == ([] : Str))) rfl rfl rfl) (Zm (GL.cut0 4 [(11, .bool ((p_s == ([] : Str)) || (decide (((List.length p_s : Int) : Int) > 32)))), (0, sv p_s)] ?_ ?_)))))))))
 rcases Zb (p_s == ([] : Str)) with hc1 | hc1
 refine Zk hc1 (Zk hc1 (Zk hc1 (Zt hc1 ?_)))
 exact GL.jump0 (fun _ _ h => h) () rfl ⟨(by rw [hc1]; rfl), rfl, trivial⟩
 refine Zu hc1 Ym (Zu hc1 (OV.lenStr rfl rfl) (Zu hc1 (OV.ibin (v := .bool (decide (((List.length p_s : Int) : Int) > 32))) rfl rfl rfl) (Zn hc1 ?_)))
 exact GL.jump0 (fun _ _ h => h) () rfl ⟨(by rw [hc1]; rfl), rfl, trivial⟩
 refine Zm ?_
 obtain ⟨J3, h, hR4⟩ := h
 refine GL.cut (α := Bool) 4 J3 (fun b2 => [(16, .bool b2), (0, sv p_s)]) ?_ ?_
 rcases h.em with ⟨hc5, h⟩ | ⟨hc5, h⟩
 refine Zk hc5 (Zk hc5 (Zk hc5 (Zt hc5 ?_)))
 exact Yj I3 true h
 refine Zu hc5 Ym ?_
 obtain ⟨c6, ha7, hb8, h⟩ := h
 refine Zu hc5 (OV.indexStr rfl rfl rfl ha7 hb8) (Zu hc5 (OV.ibin (v := .bool (decide (((c6.toNat : Int) : Int) < 97))) rfl rfl rfl) (Zn hc5 ?_))
 exact Yj I3 (decide (((c6.toNat : Int) : Int) < 97)) h
 intro b2 H9 h
 replace h := hR4 b2 H9 h
 refine Zm ?_
 obtain ⟨J11, h, hR12⟩ := h
 refine GL.cut (α := Bool) 4 J11 (fun b10 => [(21, .bool b10), (0, sv p_s)]) ?_ ?_
 rcases h.em with ⟨hc13, h⟩ | ⟨hc13, h⟩
 refine Zk hc13 (Zk hc13 (Zk hc13 (Zt hc13 ?_)))
 exact Yj I3 true h
 refine Zu hc13 Ym ?_
 obtain ⟨c14, ha15, hb16, h⟩ := h
 refine Zu hc13 (OV.indexStr rfl rfl rfl ha15 hb16) (Zu hc13 (OV.ibin (v := .bool (decide (((c14.toNat : Int) : Int) > 122))) rfl rfl rfl) (Zn hc13 ?_))
 exact Yj I3 (decide (((c14.toNat : Int) : Int) > 122)) h
 intro b10 H17 h
 replace h := hR12 b10 H17 h
 refine GL.nil (Yd h (fun hc18 h => ?_) fun hc18 h => ?_)
 refine Zo (Za (GL.nil ?_))
 exact Y1 I3 ⟨false, rfl, h⟩
 refine GC.skip (GC.seq (Zo (Zm (Zr (Zm (GL.nil (GC.block (Yp h (fun x19 => [(24, .int .i64 x19), (0, sv p_s), (23, .int .i64 (List.length p_s : Int))]) ?_))))))))
 intro x19 H21 J20 h
 refine Zo (Zi (.bool (decide ((x19 : Int) < (List.length p_s : Int)))) (GL.nil (GC.seq (Yd h (fun hc22 h => ?_) fun hc22 h => ?_))))
 refine GC.skip (GC.seq (GC.block (Zo (Zm (Za (GL.nil (Zo (Zm (Zm (Ys h fun c23 h => ?_))))))))))
 refine Za (GL.nil (Zo (Zm (Zi (.bool (decide (((c23.toNat : Int) : Int) ≥ 97))) (Zm (GL.cut0 3 [(35, .bool ((decide (((c23.toNat : Int) : Int) ≥ 97)) && (decide (((c23.toNat : Int) : Int) ≤ 122)))), (0, sv p_s), (4, .int .u8 (c23.toNat : Int)), (23, .int .i64 (List.length p_s : Int)), (24, .int .i64 x19)] ?_ ?_))))))
 rcases Zb (decide (((c23.toNat : Int) : Int) ≥ 97)) with hc26 | hc26
 refine Zu hc26 Ym (Zu hc26 (OV.ibin (v := .bool (decide (((c23.toNat : Int) : Int) ≤ 122))) rfl rfl rfl) (Zt hc26 ?_))
 exact GL.jump0 (fun _ _ h => h) () rfl ⟨(by rw [hc26]; rfl), rfl, rfl, rfl, rfl, trivial⟩
 refine Zk hc26 (Zk hc26 (Zn hc26 ?_))
 exact GL.jump0 (fun _ _ h => h) () rfl ⟨(by rw [hc26]; rfl), rfl, rfl, rfl, rfl, trivial⟩
 refine Zm (GL.cut0 7 [(43, .bool (((decide (((c23.toNat : Int) : Int) ≥ 97)) && (decide (((c23.toNat : Int) : Int) ≤ 122))) || ((decide (((c23.toNat : Int) : Int) ≥ 65)) && (decide (((c23.toNat : Int) : Int) ≤ 90))))), (0, sv p_s), (4, .int .u8 (c23.toNat : Int)), (23, .int .i64 (List.length p_s : Int)), (24, .int .i64 x19)] ?_ ?_)
 rcases Zb ((decide (((c23.toNat : Int) : Int) ≥ 97)) && (decide (((c23.toNat : Int) : Int) ≤ 122))) with hc27 | hc27
 refine Zk hc27 (Zk hc27 (Zk hc27 (GL.skip ⟨_, rfl, .inr rfl⟩ rfl (GL.skip ⟨_, rfl, .inr rfl⟩ rfl (Zk hc27 (Zt hc27 ?_))))))
 exact GL.jump0 (fun _ _ h => h) () rfl ⟨(by rw [hc27]; rfl), rfl, rfl, rfl, rfl, trivial⟩
 refine Zu hc27 Ym (Zu hc27 (OV.ibin (v := .bool (decide (((c23.toNat : Int) : Int) ≥ 65))) rfl rfl rfl) (Zu hc27 Ym (GL.cut0 3 [(42, .bool ((decide (((c23.toNat : Int) : Int) ≥ 65)) && (decide (((c23.toNat : Int) : Int) ≤ 90)))), (0, sv p_s), (4, .int .u8 (c23.toNat : Int)), (23, .int .i64 (List.length p_s : Int)), (24, .int .i64 x19), (36, .bool ((decide (((c23.toNat : Int) : Int) ≥ 97)) && (decide (((c23.toNat : Int) : Int) ≤ 122))))] ?_ ?_)))
 rcases Zb (decide (((c23.toNat : Int) : Int) ≥ 65)) with hc28 | hc28
 refine Zu hc28 Ym (Zu hc28 (OV.ibin (v := .bool (decide (((c23.toNat : Int) : Int) ≤ 90))) rfl rfl rfl) (Zu hc27 (OV.pickT rfl hc28 rfl) ?_))
 exact GL.jump0 (fun _ _ h => h) () rfl ⟨(by rw [hc28]; rfl), rfl, rfl, rfl, rfl, rfl, trivial⟩
 refine Zk hc28 (Zk hc28 (Zu hc27 (OV.pickF rfl hc28 rfl) ?_))
 exact GL.jump0 (fun _ _ h => h) () rfl ⟨(by rw [hc28]; rfl), rfl, rfl, rfl, rfl, rfl, trivial⟩
 refine Zn hc27 ?_
 exact GL.jump0 (fun _ _ h => h) () rfl ⟨(by rw [hc27]; rfl), rfl, rfl, rfl, rfl, trivial⟩
 refine Zm (GL.cut0 7 [(51, .bool ((((decide (((c23.toNat : Int) : Int) ≥ 97)) && (decide (((c23.toNat : Int) : Int) ≤ 122))) || ((decide (((c23.toNat : Int) : Int) ≥ 65)) && (decide (((c23.toNat : Int) : Int) ≤ 90)))) || ((decide (((c23.toNat : Int) : Int) ≥ 48)) && (decide (((c23.toNat : Int) : Int) ≤ 57))))), (0, sv p_s), (4, .int .u8 (c23.toNat : Int)), (23, .int .i64 (List.length p_s : Int)), (24, .int .i64 x19)] ?_ ?_)
 rcases Zb (((decide (((c23.toNat : Int) : Int) ≥ 97)) && (decide (((c23.toNat : Int) : Int) ≤ 122))) || ((decide (((c23.toNat : Int) : Int) ≥ 65)) && (decide (((c23.toNat : Int) : Int) ≤ 90)))) with hc29 | hc29
 refine Zk hc29 (Zk hc29 (Zk hc29 (GL.skip ⟨_, rfl, .inr rfl⟩ rfl (GL.skip ⟨_, rfl, .inr rfl⟩ rfl (Zk hc29 (Zt hc29 ?_))))))
 exact GL.jump0 (fun _ _ h => h) () rfl ⟨(by rw [hc29]; rfl), rfl, rfl, rfl, rfl, trivial⟩
 refine Zu hc29 Ym (Zu hc29 (OV.ibin (v := .bool (decide (((c23.toNat : Int) : Int) ≥ 48))) rfl rfl rfl) (Zu hc29 Ym (GL.cut0 3 [(50, .bool ((decide (((c23.toNat : Int) : Int) ≥ 48)) && (decide (((c23.toNat : Int) : Int) ≤ 57)))), (0, sv p_s), (4, .int .u8 (c23.toNat : Int)), (23, .int .i64 (List.length p_s : Int)), (24, .int .i64 x19), (44, .bool (((decide (((c23.toNat : Int) : Int) ≥ 97)) && (decide (((c23.toNat : Int) : Int) ≤ 122))) || ((decide (((c23.toNat : Int) : Int) ≥ 65)) && (decide (((c23.toNat : Int) : Int) ≤ 90)))))] ?_ ?_)))
 rcases Zb (decide (((c23.toNat : Int) : Int) ≥ 48)) with hc30 | hc30
 refine Zu hc30 Ym (Zu hc30 (OV.ibin (v := .bool (decide (((c23.toNat : Int) : Int) ≤ 57))) rfl rfl rfl) (Zu hc29 (OV.pickT rfl hc30 rfl) ?_))
 exact GL.jump0 (fun _ _ h => h) () rfl ⟨(by rw [hc30]; rfl), rfl, rfl, rfl, rfl, rfl, trivial⟩
 refine Zk hc30 (Zk hc30 (Zu hc29 (OV.pickF rfl hc30 rfl) ?_))
 exact GL.jump0 (fun _ _ h => h) () rfl ⟨(by rw [hc30]; rfl), rfl, rfl, rfl, rfl, rfl, trivial⟩
 refine Zn hc29 ?_
 exact GL.jump0 (fun _ _ h => h) () rfl ⟨(by rw [hc29]; rfl), rfl, rfl, rfl, rfl, trivial⟩
 refine Zm (GL.cut0 3 [(55, .bool (((((decide (((c23.toNat : Int) : Int) ≥ 97)) && (decide (((c23.toNat : Int) : Int) ≤ 122))) || ((decide (((c23.toNat : Int) : Int) ≥ 65)) && (decide (((c23.toNat : Int) : Int) ≤ 90)))) || ((decide (((c23.toNat : Int) : Int) ≥ 48)) && (decide (((c23.toNat : Int) : Int) ≤ 57)))) || (((c23.toNat : Int) : Int) == 95))), (0, sv p_s), (23, .int .i64 (List.length p_s : Int)), (24, .int .i64 x19)] ?_ ?_)
 rcases Zb ((((decide (((c23.toNat : Int) : Int) ≥ 97)) && (decide (((c23.toNat : Int) : Int) ≤ 122))) || ((decide (((c23.toNat : Int) : Int) ≥ 65)) && (decide (((c23.toNat : Int) : Int) ≤ 90)))) || ((decide (((c23.toNat : Int) : Int) ≥ 48)) && (decide (((c23.toNat : Int) : Int) ≤ 57)))) with hc31 | hc31
 refine Zk hc31 (Zk hc31 (Zt hc31 ?_))
 exact GL.jump0 (fun _ _ h => h) () rfl ⟨(by rw [hc31]; rfl), rfl, rfl, rfl, trivial⟩
 refine Zu hc31 Ym (Zu hc31 (OV.ibin (v := .bool (((c23.toNat : Int) : Int) == 95)) rfl rfl rfl) (Zn hc31 ?_))
 exact GL.jump0 (fun _ _ h => h) () rfl ⟨(by rw [hc31]; rfl), rfl, rfl, rfl, trivial⟩
 refine Zv (OV.not rfl) (GL.nil (Yd h (fun hc32 h => ?_) fun hc32 h => ?_))
 refine Zo (Za (GL.nil ?_))
 exact Y1 I3 ⟨false, rfl, h⟩
 refine GC.skip_to (fun _ _ h => h) (GC.region (Zi (.int .i64 (w .i64 (x19 + 1))) (Zm ?_)))
 exact Yj I3 (w .i64 (x19 + 1)) h
 refine GC.exit_to (fun _ _ h => h) (Zo (Za (GL.nil ?_)))
 exact Y1 I3 ⟨true, rfl, h⟩
def Qan (C : Ctx) (p_s : Sl) (K : Sl → Heap → Prop) (H : Heap) : Prop :=
 ift (Sl.isNil p_s)
 (K Sl.nil H)
 (nw ([]) (fun b2 H3 =>
 apS (Qb.c Qb.zero) 56 (Sl.of (some (b2, 0)) 0 0) p_s (fun r4 H5 =>
 K r4 H5) H3) H)
theorem Qbj (C p_s K H) (h : Qan C p_s K H) : Qy C p_s K H := by
 refine Ye Tryz.func62 rfl Tryz.ntmps62 [(0, slv p_s)] (Zo (Za (GL.nil (GC.seq (Zo (Zm (Zv (OV.eqlSl (s := p_s) rfl rfl rfl) (GL.nil (Yd h (fun u1 h => ?_) fun u1 h => ?_)))))))))
 refine Zo (Za (GL.nil ?_))
 exact Y1 I3 ⟨Sl.nil, rfl, h⟩
 refine GC.skip (Zo (GL.buildSlice (cs := []) h trivial rfl (vs := []) rfl ⟨39, fun _ => by kernel_rfl⟩ ?_))
 intro b2 H3 h
 refine Zm (GL.appendS (s := (Sl.of (some (b2, 0)) 0 0)) (s2 := p_s) (zc := Qb.c Qb.zero) (bytes := 56) h trivial rfl rfl rfl ⟨⟨_, _, _, rfl, rfl, rfl, rfl, rfl, rfl⟩⟩ rfl ?_)
 intro r4 H5 h
 refine Za (GL.nil ?_)
 exact Y1 I3 ⟨r4, rfl, h⟩
def QW (C : Ctx) (p_data : Sl) (p_n : Int) (p_cmp : Value) (K : Heap → Prop) (H : Heap) : Prop :=
 lp (α := Int × Int) (0, 20) H (fun x1 J2 H3 =>
 ift (decide ((x1.2 : Int) ≤ p_n))
 (Qp C p_data x1.1 x1.2 p_cmp (fun H5 =>
 J2 (x1.2, (w .i64 (x1.2 + 20))) H5) H3)
 (Qp C p_data x1.1 p_n p_cmp (fun H6 =>
 lp (α := Int) 20 H6 (fun x7 J8 H9 =>
 ift (decide ((x7 : Int) < p_n))
 (lp (α := Int × Int) (0, (w .i64 (2 * x7))) H9 (fun x11 J12 H13 =>
 ift (decide ((x11.2 : Int) ≤ p_n))
 (Qh C p_data x11.1 (w .i64 (x11.1 + x7)) x11.2 p_cmp (fun H15 =>
 J12 (x11.2, (w .i64 (x11.2 + (w .i64 (2 * x7))))) H15) H13)
 (jn (α := Unit) (fun x17 H18 =>
 J8 (w .i64 (x7 * 2)) H18)
 (fun J16 => ift (decide (((w .i64 (x11.1 + x7)) : Int) < p_n))
 (Qh C p_data x11.1 (w .i64 (x11.1 + x7)) p_n p_cmp (fun H21 =>
 J16 () H21) H13)
 (J16 () H13)))))
 (K H9))) H3))
theorem Qau (C p_data p_n p_cmp K H) (h : QW C p_data p_n p_cmp K H) : Q4 C p_data p_n p_cmp K H := by
 refine Ye Tryz.func63 rfl Tryz.ntmps63 [(0, slv p_data), (1, .int .i64 p_n), (2, p_cmp)] (Zo (Za (GL.nil (Zo (Zm (Za (Za (GL.nil (GC.seq (GC.block (Yp h (fun x1 => [(7, .int .i64 x1.1), (8, .int .i64 x1.2), (0, slv p_data), (1, .int .i64 p_n), (2, p_cmp), (6, .int .i64 20)]) ?_)))))))))))
 intro x1 H3 J2 h
 refine GC.seq (Zo (Zm (Zm (Zi (.bool (decide ((x1.2 : Int) ≤ p_n))) (GL.nil (Yd h (fun u4 h => ?_) fun u4 h => ?_))))))
 refine GC.skip (GC.block (Zo (Zm (Zm (Zm (Zm (Zc h Qab ?_)))))))
 rintro _ H5 ⟨rfl, h⟩
 refine GL.nil (Zo (Zm (Za (GL.nil (GC.region (Zm (Zm (Zi (.int .i64 (w .i64 (x1.2 + 20))) (Za ?_)))))))))
 exact Yj I3 (x1.2, (w .i64 (x1.2 + 20))) h
 refine GC.exit_to (fun _ _ h => h) (Zo (Zm (Zm (Zm (Zm (Zc h Qab ?_))))))
 rintro _ H6 ⟨rfl, h⟩
 refine GL.nil (GC.block (Yp h (fun x7 => [(6, .int .i64 x7), (0, slv p_data), (1, .int .i64 p_n), (2, p_cmp)]) ?_))
 intro x7 H9 J8 h
 refine GC.seq (Zo (Zm (Zm (Zi (.bool (decide ((x7 : Int) < p_n))) (GL.nil (Yd h (fun u10 h => ?_) fun u10 h => ?_))))))
 refine GC.skip (GC.block (Zo (Zm (Zi (.int .i64 (w .i64 (2 * x7))) (Za (Za (GL.nil (GC.seq (GC.block (Yp h (fun x11 => [(7, .int .i64 x11.1), (8, .int .i64 x11.2), (0, slv p_data), (1, .int .i64 p_n), (2, p_cmp), (6, .int .i64 x7)]) ?_))))))))))
 intro x11 H13 J12 h
 refine GC.seq (Zo (Zm (Zm (Zi (.bool (decide ((x11.2 : Int) ≤ p_n))) (GL.nil (Yd h (fun u14 h => ?_) fun u14 h => ?_))))))
 refine GC.skip (GC.block (Zo (Zm (Zm (Zm (Zm (Zi (.int .i64 (w .i64 (x11.1 + x7))) (Zm (Zm (Zc h Qv ?_))))))))))
 rintro _ H15 ⟨rfl, h⟩
 refine GL.nil (Zo (Zm (Za (GL.nil (GC.region (Zm (Zm (Zi (.int .i64 (w .i64 (2 * x7))) (Zi (.int .i64 (w .i64 (x11.2 + (w .i64 (2 * x7))))) (Za ?_))))))))))
 exact Yj I3 (x11.2, (w .i64 (x11.2 + (w .i64 (2 * x7))))) h
 refine GC.exit_to (fun _ _ h => h) ?_
 obtain ⟨J16, h, hR19⟩ := h
 refine GC.join (α := Unit) J16 (fun _ => [(0, slv p_data), (1, .int .i64 p_n), (2, p_cmp), (6, .int .i64 x7)]) ?_ ?_
 refine Zo (Zm (Zm (Zi (.int .i64 (w .i64 (x11.1 + x7))) (Za (GL.nil (Zo (Zm (Zm (Zi (.bool (decide (((w .i64 (x11.1 + x7)) : Int) < p_n))) (GL.nil (Yd h (fun u20 h => ?_) fun u20 h => ?_)))))))))))
 refine GC.region (Zm (Zm (Zm (Zm (Zm (Zc h Qv ?_))))))
 rintro _ H21 ⟨rfl, h⟩
 exact Yj I3 () h
 exact Yk I3 () h
 intro x17 H18 h
 replace h := hR19 x17 H18 h
 refine GC.region (Zm (Zi (.int .i64 (w .i64 (x7 * 2))) (Za ?_)))
 exact Yj I3 (w .i64 (x7 * 2)) h
 exact GC.exit_ends (fun _ _ hf hs => QO rfl hf hs ⟨rfl, h⟩)
def Qdy (C : Ctx) (Y : List Value → (Bool → Heap → Prop) → Heap → Prop) (v0 : Nat × Nat) (K : Heap → Prop) (H : Heap) : Prop :=
 ldL H v0 fun x1 =>
 lp (α := Int) 0 H (fun x3 J4 H5 =>
 ift (decide ((x3 : Int) < (Sl.len x1 : Int)))
 (ixa x1 x3 fun p7 =>
 ldT H5 Qc.c (p7.1, p7.2 + (x3 : Int).toNat * 2) fun x12 =>
 nw (Qc.c Qc.zero) (fun b14 H15 =>
 (List.all (Qc.c x12) Value.oneCell' = true) ∧
 stT (b14, 0) (Qc.c x12) (fun H16 =>
 ldL H16 ((b14, 0).1, (b14, 0).2 + 0) fun x18 =>
 lp (α := Int) 0 H16 (fun x20 J21 H22 =>
 ift (decide ((x20 : Int) < (Sl.len x18 : Int)))
 (ixa x18 x20 fun p24 =>
 ldT H22 Qa.c (p24.1, p24.2 + (x20 : Int).toNat * 2) fun x29 =>
 nw (Qa.c Qa.zero) (fun b31 H32 =>
 stT (b31, 0) (Qa.c x29) (fun H33 =>
 ldT H33 Qa.c (b31, 0) fun x34 =>
 ldV H33 ((b14, 0).1, (b14, 0).2 + 1) fun x36 =>
 Y [.agg (Qa.c x34).toArray, x36] (fun r38 H39 =>
 ift (!r38)
 (K H39)
 (J21 (w .i64 (x20 + 1)) H39)) H33) H32) H22)
 (J4 (w .i64 (x3 + 1)) H22))) H15) H5)
 (K H5))
theorem Qfu (C : Ctx) {yl : Nat} {Y : List Value → (Bool → Heap → Prop) → Heap → Prop} (hy : Rf.YldS Tryz.prog C yl Y) (v0 : Nat × Nat) (K : Heap → Prop) (H : Heap) (h : Qdy C Y v0 K H) : Qf5 C (.func (.yield yl) (List.toArray []) (List.toArray []) : Value) v0 K H := by
 refine Rf.Spec.enterI Tryz.func64 rfl Tryz.ntmps64 rfl ?_
 refine Rf.GI.sub [(0, .func (.yield yl) (List.toArray []) (List.toArray [])), (1, pv (some v0))] ⟨rfl, rfl, trivial⟩ ?_
 refine Rf.GI.seq ?_
 refine Rf.GI.region (fun _ _ h => h) rfl ?_
 refine Yl h fun x1 h => ?_
 refine Zq (Zm ?_)
 refine Rf.GI.nil ?_
 refine Rf.GI.block ?_
 refine Rf.GI.loop (α := Int) h (fun x3 => [(9, .int .i64 x3), (0, .func (.yield yl) (List.toArray []) (List.toArray [])), (7, slv x1), (8, .int .i64 (Sl.len x1 : Int))]) ⟨rfl, rfl, rfl, rfl, trivial⟩ ?_
 intro x3 H5 J4 h
 refine Rf.GI.seq ?_
 refine Rf.GI.region (fun _ _ h => h) rfl ?_
 refine Zi (.bool (decide ((x3 : Int) < (Sl.len x1 : Int)))) ?_
 refine Rf.GI.nil ?_
 refine Rf.GI.seq ?_
 refine Rf.GI.cond (b := decide ((x3 : Int) < (Sl.len x1 : Int))) rfl (fun u6 => ?_) (fun u6 => ?_)
 replace h := h.1 u6
 refine Rf.GI.skip ?_
 refine Rf.GI.seq ?_
 refine Rf.GI.block ?_
 refine Rf.GI.seq ?_
 refine Rf.GI.region (fun _ _ h => h) rfl ?_
 refine Yx h fun p7 h => ?_
 obtain ⟨x12, hr13, h⟩ := h
 refine Zv (OV.loadT rfl rfl rfl hr13) (GL.alloc (cs := Qc.c Qc.zero) h trivial rfl rfl rfl ?_)
 intro b14 H15 h
 obtain ⟨h117, h⟩ := h
 refine GL.storeT (p := (b14, 0)) (vs := Qc.c x12) h trivial rfl rfl h117 rfl ?_
 intro H16 h
 refine Rf.GI.nil ?_
 refine Rf.GI.seq ?_
 refine Rf.GI.region (fun _ _ h => h) rfl ?_
 refine Zf (Yl h fun x18 h => ?_)
 refine Zq (Zm ?_)
 refine Rf.GI.nil ?_
 refine Rf.GI.block ?_
 refine Rf.GI.loop (α := Int) h (fun x20 => [(16, .int .i64 x20), (0, .func (.yield yl) (List.toArray []) (List.toArray [])), (4, pv (some (b14, 0))), (7, slv x1), (8, .int .i64 (Sl.len x1 : Int)), (9, .int .i64 x3), (14, slv x18), (15, .int .i64 (Sl.len x18 : Int))]) ⟨rfl, rfl, rfl, rfl, rfl, rfl, rfl, rfl, trivial⟩ ?_
 intro x20 H22 J21 h
 refine Rf.GI.seq ?_
 refine Rf.GI.region (fun _ _ h => h) rfl ?_
 refine Zi (.bool (decide ((x20 : Int) < (Sl.len x18 : Int)))) ?_
 refine Rf.GI.nil ?_
 refine Rf.GI.seq ?_
 refine Rf.GI.cond (b := decide ((x20 : Int) < (Sl.len x18 : Int))) rfl (fun u23 => ?_) (fun u23 => ?_)
 replace h := h.1 u23
 refine Rf.GI.skip ?_
 refine Rf.GI.seq ?_
 refine Rf.GI.block ?_
 refine Rf.GI.seq ?_
 refine Rf.GI.region (fun _ _ h => h) rfl ?_
 refine Yx h fun p24 h => ?_
 obtain ⟨x29, hr30, h⟩ := h
 refine Zv (OV.loadT rfl rfl rfl hr30) (GL.alloc (cs := Qa.c Qa.zero) h trivial rfl rfl rfl ?_)
 intro b31 H32 h
 refine GL.storeT (p := (b31, 0)) (vs := Qa.c x29) h trivial rfl rfl rfl rfl ?_
 intro H33 h
 refine Rf.GI.nil ?_
 refine Rf.GI.seq ?_
 refine Rf.GI.regionL ?_
 refine Rf.GLI.pre 4 (fun _ _ h => h) rfl ?_
 refine Zm ?_
 obtain ⟨x34, hr35, h⟩ := h
 refine Zv (OV.loadT rfl rfl rfl hr35) (Zf (Yl h fun x36 h => ?_))
 refine Rf.GI.nilL ?_
 refine Rf.GLI.yield (us := [.agg (Qa.c x34).toArray, x36]) hy h trivial rfl rfl rfl ?_
 intro r38 H39 h
 refine Rf.GLI.ofGL (fun _ _ h => h) rfl ?_
 refine Zv (OV.not rfl) ?_
 refine Rf.GI.nil ?_
 refine Rf.GI.cond (b := !r38) rfl (fun u40 => ?_) (fun u40 => ?_)
 replace h := h.1 u40
 exact Rf.GI.ret (fun _ _ hf hs => QO rfl hf hs ⟨rfl, h⟩)
 replace h := h.2 u40
 refine Rf.GI.skip_to (fun _ _ h => h) ?_
 refine Rf.GI.region (fun _ _ h => h) rfl ?_
 refine Zi (.int .i64 (w .i64 (x20 + 1))) (Zm ?_)
 exact Yj I3 (w .i64 (x20 + 1)) h
 replace h := h.2 u23
 refine Rf.GI.exit_to (fun _ _ h => h) ?_
 refine Rf.GI.region (fun _ _ h => h) rfl ?_
 refine Zi (.int .i64 (w .i64 (x3 + 1))) (Zm ?_)
 exact Yj I3 (w .i64 (x3 + 1)) h
 replace h := h.2 u6
 exact Rf.GI.exit_ends (fun _ _ hf hs => QO rfl hf hs ⟨rfl, h⟩)
def QH (C : Ctx) (p_s : Sl) (p_f : Value) (K : Int → Heap → Prop) (H : Heap) : Prop :=
 lp (α := Int) 0 H (fun x1 J2 H3 =>
 ift (decide ((x1 : Int) < (Sl.len p_s : Int)))
 (ixa p_s x1 fun p5 =>
 ldT H3 Qb.c (p5.1, p5.2 + (x1 : Int).toNat * 4) fun x10 =>
 callU Tryz.prog C p_f [.agg (Qb.c x10).toArray] H3 (fun v H13 => ∃ (r12 : Bool), v = .bool r12 ∧
 ift r12
 (K x1 H13)
 (J2 (w .i64 (x1 + 1)) H13)))
 (K (-1) H3))
theorem Qac (C p_s p_f K H) (h : QH C p_s p_f K H) : QI C p_s p_f K H := by
 refine Ye Tryz.func65 rfl Tryz.ntmps65 [(0, slv p_s), (1, p_f)] (Zo (Za (GL.nil (GC.seq (Zo (Zm (Zq (Zm (GL.nil (GC.block (Yp h (fun x1 => [(8, .int .i64 x1), (0, slv p_s), (1, p_f), (7, .int .i64 (Sl.len p_s : Int))]) ?_)))))))))))
 intro x1 H3 J2 h
 refine Zo (Zi (.bool (decide ((x1 : Int) < (Sl.len p_s : Int)))) (GL.nil (GC.seq (Yd h (fun u4 h => ?_) fun u4 h => ?_))))
 refine GC.skip (GC.seq (GC.block (Zo (Zm (Za (GL.nil (Zo (Zm (Zm (Zm (Yx h fun p5 h => ?_)))))))))))
 obtain ⟨x10, v11, h⟩ := h
 refine Zv (OV.loadT rfl rfl rfl v11) (GL.callU (xv := p_f) (vs := [.agg (Qb.c x10).toArray]) h trivial rfl rfl rfl ?_)
 rintro _ H13 ⟨r12, rfl, h⟩
 refine GL.nil (Yd h (fun u14 h => ?_) fun u14 h => ?_)
 refine Zo (Zm (Za (GL.nil ?_)))
 exact Y1 I3 ⟨x1, rfl, h⟩
 refine GC.skip_to (fun _ _ h => h) (GC.region (Zi (.int .i64 (w .i64 (x1 + 1))) (Zm ?_)))
 exact Yj I3 (w .i64 (x1 + 1)) h
 refine GC.exit_to (fun _ _ h => h) (Zo (Za (GL.nil ?_)))
 exact Y1 I3 ⟨(-1), rfl, h⟩
def QQ (C : Ctx) (p_data : Sl) (p_n : Int) (p_cmp : Value) (K : Heap → Prop) (H : Heap) : Prop :=
 lp (α := Int × Int) (0, 20) H (fun x1 J2 H3 =>
 ift (decide ((x1.2 : Int) ≤ p_n))
 (Qo C p_data x1.1 x1.2 p_cmp (fun H5 =>
 J2 (x1.2, (w .i64 (x1.2 + 20))) H5) H3)
 (Qo C p_data x1.1 p_n p_cmp (fun H6 =>
 lp (α := Int) 20 H6 (fun x7 J8 H9 =>
 ift (decide ((x7 : Int) < p_n))
 (lp (α := Int × Int) (0, (w .i64 (2 * x7))) H9 (fun x11 J12 H13 =>
 ift (decide ((x11.2 : Int) ≤ p_n))
 (Qg C p_data x11.1 (w .i64 (x11.1 + x7)) x11.2 p_cmp (fun H15 =>
 J12 (x11.2, (w .i64 (x11.2 + (w .i64 (2 * x7))))) H15) H13)
 (jn (α := Unit) (fun x17 H18 =>
 J8 (w .i64 (x7 * 2)) H18)
 (fun J16 => ift (decide (((w .i64 (x11.1 + x7)) : Int) < p_n))
 (Qg C p_data x11.1 (w .i64 (x11.1 + x7)) p_n p_cmp (fun H21 =>
 J16 () H21) H13)
 (J16 () H13)))))
 (K H9))) H3))
theorem Qaq (C p_data p_n p_cmp K H) (h : QQ C p_data p_n p_cmp K H) : QU C p_data p_n p_cmp K H := by
 refine Ye Tryz.func66 rfl Tryz.ntmps66 [(0, slv p_data), (1, .int .i64 p_n), (2, p_cmp)] (Zo (Za (GL.nil (Zo (Zm (Za (Za (GL.nil (GC.seq (GC.block (Yp h (fun x1 => [(7, .int .i64 x1.1), (8, .int .i64 x1.2), (0, slv p_data), (1, .int .i64 p_n), (2, p_cmp), (6, .int .i64 20)]) ?_)))))))))))
 intro x1 H3 J2 h
 refine GC.seq (Zo (Zm (Zm (Zi (.bool (decide ((x1.2 : Int) ≤ p_n))) (GL.nil (Yd h (fun u4 h => ?_) fun u4 h => ?_))))))
 refine GC.skip (GC.block (Zo (Zm (Zm (Zm (Zm (Zc h Q8 ?_)))))))
 rintro _ H5 ⟨rfl, h⟩
 refine GL.nil (Zo (Zm (Za (GL.nil (GC.region (Zm (Zm (Zi (.int .i64 (w .i64 (x1.2 + 20))) (Za ?_)))))))))
 exact Yj I3 (x1.2, (w .i64 (x1.2 + 20))) h
 refine GC.exit_to (fun _ _ h => h) (Zo (Zm (Zm (Zm (Zm (Zc h Q8 ?_))))))
 rintro _ H6 ⟨rfl, h⟩
 refine GL.nil (GC.block (Yp h (fun x7 => [(6, .int .i64 x7), (0, slv p_data), (1, .int .i64 p_n), (2, p_cmp)]) ?_))
 intro x7 H9 J8 h
 refine GC.seq (Zo (Zm (Zm (Zi (.bool (decide ((x7 : Int) < p_n))) (GL.nil (Yd h (fun u10 h => ?_) fun u10 h => ?_))))))
 refine GC.skip (GC.block (Zo (Zm (Zi (.int .i64 (w .i64 (2 * x7))) (Za (Za (GL.nil (GC.seq (GC.block (Yp h (fun x11 => [(7, .int .i64 x11.1), (8, .int .i64 x11.2), (0, slv p_data), (1, .int .i64 p_n), (2, p_cmp), (6, .int .i64 x7)]) ?_))))))))))
 intro x11 H13 J12 h
 refine GC.seq (Zo (Zm (Zm (Zi (.bool (decide ((x11.2 : Int) ≤ p_n))) (GL.nil (Yd h (fun u14 h => ?_) fun u14 h => ?_))))))
 refine GC.skip (GC.block (Zo (Zm (Zm (Zm (Zm (Zi (.int .i64 (w .i64 (x11.1 + x7))) (Zm (Zm (Zc h Qs ?_))))))))))
 rintro _ H15 ⟨rfl, h⟩
 refine GL.nil (Zo (Zm (Za (GL.nil (GC.region (Zm (Zm (Zi (.int .i64 (w .i64 (2 * x7))) (Zi (.int .i64 (w .i64 (x11.2 + (w .i64 (2 * x7))))) (Za ?_))))))))))
 exact Yj I3 (x11.2, (w .i64 (x11.2 + (w .i64 (2 * x7))))) h
 refine GC.exit_to (fun _ _ h => h) ?_
 obtain ⟨J16, h, hR19⟩ := h
 refine GC.join (α := Unit) J16 (fun _ => [(0, slv p_data), (1, .int .i64 p_n), (2, p_cmp), (6, .int .i64 x7)]) ?_ ?_
 refine Zo (Zm (Zm (Zi (.int .i64 (w .i64 (x11.1 + x7))) (Za (GL.nil (Zo (Zm (Zm (Zi (.bool (decide (((w .i64 (x11.1 + x7)) : Int) < p_n))) (GL.nil (Yd h (fun u20 h => ?_) fun u20 h => ?_)))))))))))
 refine GC.region (Zm (Zm (Zm (Zm (Zm (Zc h Qs ?_))))))
 rintro _ H21 ⟨rfl, h⟩
 exact Yj I3 () h
 exact Yk I3 () h
 intro x17 H18 h
 replace h := hR19 x17 H18 h
 refine GC.region (Zm (Zi (.int .i64 (w .i64 (x7 * 2))) (Za ?_)))
 exact Yj I3 (w .i64 (x7 * 2)) h
 exact GC.exit_ends (fun _ _ hf hs => QO rfl hf hs ⟨rfl, h⟩)
def QbU (C : Ctx) (p_x : Int) (p_y : Int) (K : Int → Heap → Prop) (H : Heap) : Prop :=
 Qa8 C p_x (fun r1 H2 =>
 Qa8 C p_y (fun r3 H4 =>
 ift r1
 (ift r3
 (K 0 H4)
 (K (-1) H4))
 (ift r3
 (K 1 H4)
 (ift (decide ((p_x : Int) < p_y))
 (K (-1) H4)
 (ift (decide ((p_x : Int) > p_y))
 (K 1 H4)
 (K 0 H4))))) H2) H
theorem Qdj (C p_x p_y K H) (h : QbU C p_x p_y K H) : Qbm C p_x p_y K H := by
 refine Ye Tryz.func70 rfl Tryz.ntmps70 [(0, .int .u8 p_x), (1, .int .u8 p_y)] (Zo (Za (GL.nil (Zo (Zm (Zc h Qck ?_))))))
 rintro _ H2 ⟨r1, rfl, h⟩
 refine Za (GL.nil (Zo (Zm (Zc h Qck ?_))))
 rintro _ H4 ⟨r3, rfl, h⟩
 refine Za (GL.nil (GC.seq (Zo (Zm (GL.nil (Yd h (fun hc5 h => ?_) fun hc5 h => ?_))))))
 refine GC.seq (Zo (Zm (GL.nil (Yd h (fun hc6 h => ?_) fun hc6 h => ?_))))
 refine Zo (Za (GL.nil ?_))
 exact Y1 I3 ⟨0, rfl, h⟩
 refine GC.skip (Zo (Za (GL.nil ?_)))
 exact Y1 I3 ⟨(-1), rfl, h⟩
 refine GC.skip (GC.seq (Zo (Zm (GL.nil (Yd h (fun hc7 h => ?_) fun hc7 h => ?_)))))
 refine Zo (Za (GL.nil ?_))
 exact Y1 I3 ⟨1, rfl, h⟩
 refine GC.skip (GC.seq (Zo (Zm (Zm (Zi (.bool (decide ((p_x : Int) < p_y))) (GL.nil (Yd h (fun hc8 h => ?_) fun hc8 h => ?_)))))))
 refine Zo (Za (GL.nil ?_))
 exact Y1 I3 ⟨(-1), rfl, h⟩
 refine GC.skip (GC.seq (Zo (Zm (Zm (Zi (.bool (decide ((p_x : Int) > p_y))) (GL.nil (Yd h (fun hc9 h => ?_) fun hc9 h => ?_)))))))
 refine Zo (Za (GL.nil ?_))
 exact Y1 I3 ⟨1, rfl, h⟩
 refine GC.skip (Zo (Za (GL.nil ?_)))
 exact Y1 I3 ⟨0, rfl, h⟩
def QcQ (C : Ctx) (p_a : Str) (p_b : Str) (K : Int → Heap → Prop) (H : Heap) : Prop :=
 QaK C p_a [45] (fun r1 H2 =>
 QaK C p_b [45] (fun r3 H4 =>
 ift (r1 && r3)
 (dr H4 fun Hs7 =>
 slS p_b 1 (List.length p_b : Int) fun t9 =>
 slS p_a 1 (List.length p_a : Int) fun t15 =>
 Qax C t9 t15 (fun r22 H23 =>
 Heap.le Hs7 H23 ∧
 K r22 H23) H4)
 (ift r1
 (K (-1) H4)
 (ift r3
 (K 1 H4)
 (QbF C (List.length p_a : Int) (List.length p_b : Int) (fun r26 H27 =>
 Qae C p_a p_b (fun r28 H29 =>
 nw ([.int .i64 r26, .int .i64 r28]) (fun b30 H31 =>
 Qcg C (Sl.of (some (b30, 0)) 2 2) (fun r32 H33 =>
 K r32 H33) H31) H29) H27) H4)))) H2) H
theorem QdO (C p_a p_b K H) (h : QcQ C p_a p_b K H) : Qax C p_a p_b K H := by
 refine Ye Tryz.func71 rfl Tryz.ntmps71 [(0, sv p_a), (1, sv p_b)] (Zo (Za (GL.nil (Zo (Zm (Zc h QbS ?_))))))
 rintro _ H2 ⟨r1, rfl, h⟩
 refine Zm (Zc h QbS ?_)
 rintro _ H4 ⟨r3, rfl, h⟩
 refine Za (Za (GL.nil (GC.seq (GC.block (Zo (Zm (Zm (GL.cut0 2 [(15, .bool (r1 && r3)), (0, sv p_a), (1, sv p_b), (5, .bool r1), (6, .bool r3)] ?_ ?_))))))))
 rcases Bool.eq_false_or_eq_true r1 with u5 | u5
 refine Zu u5 Ym (Zt u5 ?_)
 exact GL.jump0 (fun _ _ h => h) () rfl ⟨(by rw [u5]; rfl), rfl, rfl, rfl, rfl, trivial⟩
 refine Zk u5 (Zn u5 ?_)
 exact GL.jump0 (fun _ _ h => h) () rfl ⟨(by rw [u5]; rfl), rfl, rfl, rfl, rfl, trivial⟩
 refine Za (GL.nil (Yd h (fun u6 h => ?_) fun u6 h => ?_))
 refine GC.seq ?_
 obtain ⟨Hs7, hle8, h⟩ := h
 refine GC.any (Hs := Hs7) (by kernel_rfl) hle8 (Zp 0 rfl Ym ?_)
 obtain ⟨h10, h11, h12, t9, h13, h⟩ := h
 refine Zp 1 rfl (OV.sliceStr (s := p_b) h10 h11 h12 h13 rfl rfl rfl rfl rfl rfl) (Zp 2 rfl Ym ?_)
 obtain ⟨h16, h17, h18, t15, h19, h⟩ := h
 refine Zp 3 rfl (OV.sliceStr (s := p_a) h16 h17 h18 h19 rfl rfl rfl rfl rfl rfl) (GA.eff 4 rfl (by kernel_rfl) (Zc h Qd0 ?_))
 rintro _ H23 ⟨r22, rfl, h⟩
 obtain ⟨hle21, h⟩ := h
 refine GA.back hle21 (Zp 5 rfl Ya (GA.done (by kernel_rfl) (GL.nil ?_)))
 exact Y1 I3 ⟨r22, rfl, h⟩
 refine Zo (Zm (Za (GL.nil (Yd h (fun u24 h => ?_) fun u24 h => ?_))))
 refine Zo (Za (GL.nil ?_))
 exact Y1 I3 ⟨(-1), rfl, h⟩
 refine Zo (Zm (Za (GL.nil (Yd h (fun u25 h => ?_) fun u25 h => ?_))))
 refine Zo (Za (GL.nil ?_))
 exact Y1 I3 ⟨1, rfl, h⟩
 refine GC.skip_to (fun _ _ h => h) (Zo (Zm (Zr (Zm (Zr (Zc h QdW ?_))))))
 rintro _ H27 ⟨r26, rfl, h⟩
 refine Zm (Zm (Zc h Qa3 ?_))
 rintro _ H29 ⟨r28, rfl, h⟩
 refine GL.buildSlice (cs := [.int .i64 r26, .int .i64 r28]) h trivial rfl (vs := [(0, .int .i64 r26), (1, .int .i64 r28)]) rfl ⟨3, fun _ => by kernel_rfl⟩ ?_
 intro b30 H31 h
 refine Zc h QdX ?_
 rintro _ H33 ⟨r32, rfl, h⟩
 refine Za (GL.nil ?_)
 exact Y1 I3 ⟨r32, rfl, h⟩
def QbL (C : Ctx) (p_x : Str) (p_y : Str) (K : Int → Heap → Prop) (H : Heap) : Prop :=
 QaY C p_x (fun r1 H2 =>
 QaY C p_y (fun r3 H4 =>
 ift r1
 (ift r3
 (K 0 H4)
 (K (-1) H4))
 (ift r3
 (K 1 H4)
 (ift (slt p_x p_y)
 (K (-1) H4)
 (ift (!(slt p_x p_y || (p_x == p_y)))
 (K 1 H4)
 (K 0 H4))))) H2) H
theorem QcY (C p_x p_y K H) (h : QbL C p_x p_y K H) : Qae C p_x p_y K H := by
 refine Ye Tryz.func72 rfl Tryz.ntmps72 [(0, sv p_x), (1, sv p_y)] (Zo (Za (GL.nil (Zo (Zm (Zc h Qb2 ?_))))))
 rintro _ H2 ⟨r1, rfl, h⟩
 refine Za (GL.nil (Zo (Zm (Zc h Qb2 ?_))))
 rintro _ H4 ⟨r3, rfl, h⟩
 refine Za (GL.nil (GC.seq (Zo (Zm (GL.nil (Yd h (fun u5 h => ?_) fun u5 h => ?_))))))
 refine GC.seq (Zo (Zm (GL.nil (Yd h (fun u6 h => ?_) fun u6 h => ?_))))
 refine Zo (Za (GL.nil ?_))
 exact Y1 I3 ⟨0, rfl, h⟩
 refine GC.skip (Zo (Za (GL.nil ?_)))
 exact Y1 I3 ⟨(-1), rfl, h⟩
 refine GC.skip (GC.seq (Zo (Zm (GL.nil (Yd h (fun u7 h => ?_) fun u7 h => ?_)))))
 refine Zo (Za (GL.nil ?_))
 exact Y1 I3 ⟨1, rfl, h⟩
 refine GC.skip (GC.seq (Zo (Zm (Zm (Zv (OV.sbin (a := p_x) (b := p_y) (v := .bool (slt p_x p_y)) rfl rfl rfl) (GL.nil (Yd h (fun u8 h => ?_) fun u8 h => ?_)))))))
 refine Zo (Za (GL.nil ?_))
 exact Y1 I3 ⟨(-1), rfl, h⟩
 refine GC.skip (GC.seq (Zo (Zm (Zm (Zv (OV.sbin (a := p_x) (b := p_y) (v := .bool (!(slt p_x p_y || (p_x == p_y)))) rfl rfl rfl) (GL.nil (Yd h (fun u9 h => ?_) fun u9 h => ?_)))))))
 refine Zo (Za (GL.nil ?_))
 exact Y1 I3 ⟨1, rfl, h⟩
 refine GC.skip (Zo (Za (GL.nil ?_)))
 exact Y1 I3 ⟨0, rfl, h⟩
def Qd8 (C : Ctx) (p_vals : Sl) (K : Int → Heap → Prop) (H : Heap) : Prop :=
 lp (α := Int) 0 H (fun x1 J2 H3 =>
 ift (decide ((x1 : Int) < (Sl.len p_vals : Int)))
 (ixa p_vals x1 fun p5 =>
 ldI H3 .i64 (p5.1, p5.2 + (x1 : Int).toNat * 1) fun x10 =>
 ift ((x10 : Int) != 0)
 (K x10 H3)
 (J2 (w .i64 (x1 + 1)) H3))
 (K 0 H3))
theorem QfU (C p_vals K H) (h : Qd8 C p_vals K H) : Qcg C p_vals K H := by
 refine Ye Tryz.func73 rfl Tryz.ntmps73 [(0, slv p_vals)] (Zo (Za (GL.nil (Zo (Za (GL.nil (GC.seq (Zo (Zm (Zq (Zm (GL.nil (GC.block (Yp h (fun x1 => [(8, .int .i64 x1), (3, .int .i64 0), (6, slv p_vals), (7, .int .i64 (Sl.len p_vals : Int))]) ?_))))))))))))))
 intro x1 H3 J2 h
 refine Zo (Zi (.bool (decide ((x1 : Int) < (Sl.len p_vals : Int)))) (GL.nil (GC.seq (Yd h (fun u4 h => ?_) fun u4 h => ?_))))
 refine GC.skip (GC.seq (GC.block (Zo (Yx h fun p5 h => ?_))))
 refine Yl h fun x10 h => ?_
 refine Za (GL.nil (Zo (Zm (Zm (Zi (.bool ((x10 : Int) != 0)) (GL.nil (Yd h (fun u12 h => ?_) fun u12 h => ?_)))))))
 refine Zo (Zm (Za (GL.nil ?_)))
 exact Y1 I3 ⟨x10, rfl, h⟩
 refine GC.skip_to (fun _ _ h => h) (GC.region (Zi (.int .i64 (w .i64 (x1 + 1))) (Zm ?_)))
 exact Yj I3 (w .i64 (x1 + 1)) h
 refine GC.exit_to (fun _ _ h => h) (Zo (Zm (Za (GL.nil ?_))))
 exact Y1 I3 ⟨0, rfl, h⟩
def QbT (C : Ctx) (p_x : Int) (p_y : Int) (K : Int → Heap → Prop) (H : Heap) : Prop :=
 Qa7 C p_x (fun r1 H2 =>
 Qa7 C p_y (fun r3 H4 =>
 ift r1
 (ift r3
 (K 0 H4)
 (K (-1) H4))
 (ift r3
 (K 1 H4)
 (ift (decide ((p_x : Int) < p_y))
 (K (-1) H4)
 (ift (decide ((p_x : Int) > p_y))
 (K 1 H4)
 (K 0 H4))))) H2) H
theorem Qdi (C p_x p_y K H) (h : QbT C p_x p_y K H) : Qbl C p_x p_y K H := by
 refine Ye Tryz.func74 rfl Tryz.ntmps74 [(0, .int .i64 p_x), (1, .int .i64 p_y)] (Zo (Za (GL.nil (Zo (Zm (Zc h Qcj ?_))))))
 rintro _ H2 ⟨r1, rfl, h⟩
 refine Za (GL.nil (Zo (Zm (Zc h Qcj ?_))))
 rintro _ H4 ⟨r3, rfl, h⟩
 refine Za (GL.nil (GC.seq (Zo (Zm (GL.nil (Yd h (fun u5 h => ?_) fun u5 h => ?_))))))
 refine GC.seq (Zo (Zm (GL.nil (Yd h (fun u6 h => ?_) fun u6 h => ?_))))
 refine Zo (Za (GL.nil ?_))
 exact Y1 I3 ⟨0, rfl, h⟩
 refine GC.skip (Zo (Za (GL.nil ?_)))
 exact Y1 I3 ⟨(-1), rfl, h⟩
 refine GC.skip (GC.seq (Zo (Zm (GL.nil (Yd h (fun u7 h => ?_) fun u7 h => ?_)))))
 refine Zo (Za (GL.nil ?_))
 exact Y1 I3 ⟨1, rfl, h⟩
 refine GC.skip (GC.seq (Zo (Zm (Zm (Zi (.bool (decide ((p_x : Int) < p_y))) (GL.nil (Yd h (fun u8 h => ?_) fun u8 h => ?_)))))))
 refine Zo (Za (GL.nil ?_))
 exact Y1 I3 ⟨(-1), rfl, h⟩
 refine GC.skip (GC.seq (Zo (Zm (Zm (Zi (.bool (decide ((p_x : Int) > p_y))) (GL.nil (Yd h (fun u9 h => ?_) fun u9 h => ?_)))))))
 refine Zo (Za (GL.nil ?_))
 exact Y1 I3 ⟨1, rfl, h⟩
 refine GC.skip (Zo (Za (GL.nil ?_)))
 exact Y1 I3 ⟨0, rfl, h⟩
def QbM (C : Ctx) (p_s : Str) (p_prefix : Str) (K : Str → Heap → Prop) (H : Heap) : Prop :=
 Qav C p_s p_prefix (fun r1 H2 =>
 K r1 H2) H
theorem QcZ (C p_s p_prefix K H) (h : QbM C p_s p_prefix K H) : QX C p_s p_prefix K H := by
 refine Ye Tryz.func75 rfl Tryz.ntmps75 [(0, sv p_s), (1, sv p_prefix)] (Zo (Za (GL.nil (Zo (Zm (Zm (Zc h Qbs ?_)))))))
 rintro _ H2 ⟨r1, rfl, h⟩
 refine Za (GL.nil ?_)
 exact Y1 I3 ⟨r1, rfl, h⟩
def Qc8 (C : Ctx) (p_s : Str) (p_cutset : Str) (K : Str → Heap → Prop) (H : Heap) : Prop :=
 ift ((p_s == ([] : Str)) || (p_cutset == ([] : Str)))
 (K p_s H)
 (jn (α := Bool) (fun b3 H10 =>
 ift b3
 (dr H10 fun Hs12 =>
 ixs p_cutset 0 fun c14 =>
 ixs p_cutset 0 fun c17 =>
 QcK C p_s (c14.toNat : Int) (fun r21 H22 =>
 Heap.le Hs12 H22 ∧
 QcX C r21 (c17.toNat : Int) (fun r24 H25 =>
 Heap.le Hs12 H25 ∧
 K r24 H25) H22) H10)
 (Qz C p_cutset (fun r26 r27 H28 =>
 nw ((List.replicate 256 (.bool false : Value))) (fun b29 H30 =>
 stC 256 (b29, 0) r26 (fun H31 =>
 ift r27
 (QaI C p_s (some (b29, 0)) (fun r35 H36 =>
 QaL C r35 (some (b29, 0)) (fun r37 H38 =>
 K r37 H38) H36) H31)
 (Qce C p_s p_cutset (fun r39 H40 =>
 Qcs C r39 p_cutset (fun r41 H42 =>
 K r41 H42) H40) H31)) H30) H28) H10))
 (fun J4 => ift (((List.length p_cutset : Int) : Int) == 1)
 (ixs p_cutset 0 fun c7 =>
 J4 (decide (((c7.toNat : Int) : Int) < 128)) H)
 (J4 false H)))
theorem QeS (C p_s p_cutset K H) (h : Qc8 C p_s p_cutset K H) : QaF C p_s p_cutset K H := by
 refine Ye Tryz.func76 rfl Tryz.ntmps76 [(0, sv p_s), (1, sv p_cutset)] (Zo (Za (GL.nil (GC.seq (Zo (Zm (Zv (OV.sbin (a := p_s) (b := ([] : Str)) (v := .bool (p_s == ([] : Str))) rfl rfl rfl) (Zm (GL.cut0 3 [(12, .bool ((p_s == ([] : Str)) || (p_cutset == ([] : Str)))), (0, sv p_s), (1, sv p_cutset)] ?_ ?_)))))))))
 rcases Zb (p_s == ([] : Str)) with u1 | u1
 refine Zk u1 (Zk u1 (Zt u1 ?_))
 exact GL.jump0 (fun _ _ h => h) () rfl ⟨(by rw [u1]; rfl), rfl, rfl, trivial⟩
 refine Zu u1 Ym (Zu u1 (OV.sbin (a := p_cutset) (b := ([] : Str)) (v := .bool (p_cutset == ([] : Str))) rfl rfl rfl) (Zn u1 ?_))
 exact GL.jump0 (fun _ _ h => h) () rfl ⟨(by rw [u1]; rfl), rfl, rfl, trivial⟩
 refine GL.nil (Yd h (fun u2 h => ?_) fun u2 h => ?_)
 refine Zo (Zm (Za (GL.nil ?_)))
 exact Y1 I3 ⟨p_s, rfl, h⟩
 refine GC.skip (GC.seq (Zo (Zm (Zr (Zi (.bool (((List.length p_cutset : Int) : Int) == 1)) (Zm ?_))))))
 obtain ⟨J4, h, hR5⟩ := h
 refine GL.cut (α := Bool) 4 J4 (fun b3 => [(21, .bool b3), (0, sv p_s), (1, sv p_cutset)]) ?_ ?_
 rcases h.em with ⟨u6, h⟩ | ⟨u6, h⟩
 refine Zu u6 Ym ?_
 obtain ⟨c7, ha8, hb9, h⟩ := h
 refine Zu u6 (OV.indexStr rfl rfl rfl ha8 hb9) (Zu u6 (OV.ibin (v := .bool (decide (((c7.toNat : Int) : Int) < 128))) rfl rfl rfl) (Zt u6 ?_))
 exact Yj I3 (decide (((c7.toNat : Int) : Int) < 128)) h
 refine Zk u6 (Zk u6 (Zk u6 (Zn u6 ?_)))
 exact Yj I3 false h
 intro b3 H10 h
 replace h := hR5 b3 H10 h
 refine GL.nil (Yd h (fun u11 h => ?_) fun u11 h => ?_)
 refine GC.seq ?_
 obtain ⟨Hs12, hle13, h⟩ := h
 refine GC.any (Hs := Hs12) (by kernel_rfl) hle13 (Zp 0 rfl Ym (Zp 1 rfl Ym ?_))
 obtain ⟨c14, ha15, hb16, h⟩ := h
 refine Zp 2 rfl (OV.indexStr rfl rfl rfl ha15 hb16) (Zp 4 rfl Ym ?_)
 obtain ⟨c17, ha18, hb19, h⟩ := h
 refine Zp 5 rfl (OV.indexStr rfl rfl rfl ha18 hb19) (GA.eff 3 rfl (by kernel_rfl) (Zc h QcA ?_))
 rintro _ H22 ⟨r21, rfl, h⟩
 obtain ⟨hle20, h⟩ := h
 refine GA.back hle20 (GA.eff 6 rfl (by kernel_rfl) (Zc h QcO ?_))
 rintro _ H25 ⟨r24, rfl, h⟩
 obtain ⟨hle23, h⟩ := h
 refine GA.back hle23 (Zp 7 rfl Ya (GA.done (by kernel_rfl) (GL.nil ?_)))
 exact Y1 I3 ⟨r24, rfl, h⟩
 refine GC.skip (GC.seq (Zo (Zm (Zc h QcN ?_))))
 rintro _ H28 ⟨r26, r27, rfl, h⟩
 refine Zm (Yv (.agg (List.toArray r26)) rfl rfl (Yv (.bool r27) rfl rfl (GL.alloc (cs := (List.replicate 256 (.bool false : Value))) h trivial rfl rfl rfl ?_)))
 intro b29 H30 h
 obtain ⟨hl32, h133, h⟩ := h
 refine GL.storeT (p := (b29, 0)) (vs := r26) h trivial rfl rfl h133 (by rw [hl32]; rfl) ?_
 intro H31 h
 refine Za (GL.nil (Zo (Zm (GL.nil (Yd h (fun u34 h => ?_) fun u34 h => ?_)))))
 refine Zo (Zm (Zc h Qcu ?_))
 rintro _ H36 ⟨r35, rfl, h⟩
 refine Zc h Qcz ?_
 rintro _ H38 ⟨r37, rfl, h⟩
 refine Za (GL.nil ?_)
 exact Y1 I3 ⟨r37, rfl, h⟩
 refine GC.skip (Zo (Zm (Zm (Zc h Qb6 ?_))))
 rintro _ H40 ⟨r39, rfl, h⟩
 refine Zm (Zc h Qcf ?_)
 rintro _ H42 ⟨r41, rfl, h⟩
 refine Za (GL.nil ?_)
 exact Y1 I3 ⟨r41, rfl, h⟩
def Qa5 (C : Ctx) (p_s : Str) (p_sep : Str) (K : Str → Str → Bool → Heap → Prop) (H : Heap) : Prop :=
 Qag C p_s p_sep (fun r1 H2 =>
 ift (decide ((r1 : Int) ≥ 0))
 (slS p_s 0 r1 fun t4 =>
 slS p_s (w .i64 (r1 + (List.length p_sep : Int))) (List.length p_s : Int) fun t10 =>
 K t4 t10 true H2)
 (K p_s [] false H2)) H
theorem Qb0 (C p_s p_sep K H) (h : Qa5 C p_s p_sep K H) : Qba C p_s p_sep K H := by
 refine Ye Tryz.func77 rfl Tryz.ntmps77 [(0, sv p_s), (1, sv p_sep)] (Zo (Za (Za (Za (GL.nil (GC.seq (Zo (Zm (Zm (Zc h QbP ?_))))))))))
 rintro _ H2 ⟨r1, rfl, h⟩
 refine Za (GL.nil (Zo (Zm (Zi (.bool (decide ((r1 : Int) ≥ 0))) (GL.nil (Yd h (fun u3 h => ?_) fun u3 h => ?_))))))
 refine GC.seq (GC.draw (by kernel_rfl) (by kernel_rfl) (GQ.val trivial rfl (OV.move (v := sv p_s) rfl) (GQ.val trivial rfl (OV.move (v := .int .i64 r1) rfl) ?_)))
 obtain ⟨h5, h6, h7, t4, h8, h⟩ := h
 refine GQ.val trivial rfl (OV.sliceStr (s := p_s) h5 h6 h7 h8 rfl rfl rfl rfl rfl rfl) (GQ.val trivial rfl (OV.move (v := sv p_s) rfl) (GQ.val trivial rfl (OV.move (v := .int .i64 r1) rfl) (GQ.val trivial rfl (OV.move (v := sv p_sep) rfl) (GQ.val trivial rfl (OV.lenStr (s := p_sep) rfl rfl) (GQ.val trivial rfl (OV.ibin (v := .int .i64 (w .i64 (r1 + (List.length p_sep : Int)))) rfl rfl rfl) ?_)))))
 obtain ⟨h11, h12, h13, t10, h14, h⟩ := h
 refine GQ.val trivial rfl (OV.sliceStr (s := p_s) h11 h12 h13 h14 rfl rfl rfl rfl rfl rfl) (GQ.val trivial rfl (OV.assign (v := sv t4) rfl) (GQ.val trivial rfl (OV.assign (v := sv t10) rfl) (GQ.val trivial rfl (OV.assign (v := .bool true) rfl) (GQ.nil (GL.nil ?_)))))
 exact Y3 I3 ⟨t4, t10, true, rfl, h⟩
 refine GC.skip (Zo (Zm (Za (Za (Za (GL.nil ?_))))))
 exact Y3 I3 ⟨p_s, [], false, rfl, h⟩
def QE (C : Ctx) (p_data : Sl) (p_a : Int) (p_b : Int) (p_cmp : Value) (K : Heap → Prop) (H : Heap) : Prop :=
 lp (α := Int) (w .i64 (p_a + 1)) H (fun x1 J2 H3 =>
 ift (decide ((x1 : Int) < p_b))
 (lp (α := Int) x1 H3 (fun x5 J6 H7 =>
 jn (α := Bool) (fun x9 H10 =>
 ift x9
 (jn (α := Unit) (fun x34 H35 =>
 J6 (w .i64 (x5 - 1)) H35)
 (fun J33 => dr H10 fun Hs37 =>
 ixa p_data (w .i64 (x5 - 1)) fun p39 =>
 ixa p_data x5 fun p44 =>
 (ldL H10 (p39.1, p39.2 + (w .i64 (x5 - 1) : Int).toNat * 1) fun x50 =>
 Heap.le Hs37 H10 ∧
 ldL H10 (p44.1, p44.2 + (x5 : Int).toNat * 1) fun x53 =>
 Heap.le Hs37 H10 ∧
 ixa p_data x5 fun p55 =>
 st (p55.1, p55.2 + (x5 : Int).toNat * 1) (slv x50) (fun H61 =>
 Heap.le Hs37 H61 ∧
 ixa p_data (w .i64 (x5 - 1)) fun p62 =>
 st (p62.1, p62.2 + (w .i64 (x5 - 1) : Int).toNat * 1) (slv x53) (fun H67 =>
 J33 () H67) H61) H10) ∧
 (ldL H10 (p44.1, p44.2 + (x5 : Int).toNat * 1) fun x69 =>
 Heap.le Hs37 H10 ∧
 ldL H10 (p39.1, p39.2 + (w .i64 (x5 - 1) : Int).toNat * 1) fun x72 =>
 Heap.le Hs37 H10 ∧
 ixa p_data x5 fun p74 =>
 st (p74.1, p74.2 + (x5 : Int).toNat * 1) (slv x72) (fun H80 =>
 Heap.le Hs37 H80 ∧
 ixa p_data (w .i64 (x5 - 1)) fun p81 =>
 st (p81.1, p81.2 + (w .i64 (x5 - 1) : Int).toNat * 1) (slv x69) (fun H86 =>
 J33 () H86) H80) H10)))
 (J2 (w .i64 (x1 + 1)) H10))
 (fun J8 => dr H7 fun Hs12 =>
 ift (decide ((x5 : Int) > p_a))
 (ixa p_data x5 fun p15 =>
 ldL Hs12 (p15.1, p15.2 + (x5 : Int).toNat * 1) fun x20 =>
 ixa p_data (w .i64 (x5 - 1)) fun p22 =>
 ldL Hs12 (p22.1, p22.2 + (w .i64 (x5 - 1) : Int).toNat * 1) fun x27 =>
 callU Tryz.prog C p_cmp [slv x20, slv x27] H7 (fun v H31 => ∃ (r30 : Int), v = .int .i64 r30 ∧
 Heap.le Hs12 H31 ∧
 J8 (decide ((r30 : Int) < 0)) H31))
 (J8 false H7))))
 (K H3))
theorem Qaa (C p_data p_a p_b p_cmp K H) (h : QE C p_data p_a p_b p_cmp K H) : Qp C p_data p_a p_b p_cmp K H := by
 refine Ye Tryz.func78 rfl Tryz.ntmps78 [(0, slv p_data), (1, .int .i64 p_a), (2, .int .i64 p_b), (3, p_cmp)] (Zo (Zm (Zi (.int .i64 (w .i64 (p_a + 1))) (Za (GL.nil (GC.block (Yp h (fun x1 => [(8, .int .i64 x1), (0, slv p_data), (1, .int .i64 p_a), (2, .int .i64 p_b), (3, p_cmp)]) ?_)))))))
 intro x1 H3 J2 h
 refine GC.seq (Zo (Zm (Zm (Zi (.bool (decide ((x1 : Int) < p_b))) (GL.nil (Yd h (fun u4 h => ?_) fun u4 h => ?_))))))
 refine GC.skip (GC.seq (GC.block (Zo (Zm (Za (GL.nil (GC.block (Yp h (fun x5 => [(9, .int .i64 x5), (0, slv p_data), (1, .int .i64 p_a), (2, .int .i64 p_b), (3, p_cmp), (8, .int .i64 x1)]) ?_))))))))
 intro x5 H7 J6 h
 refine GC.seq (GC.seq ?_)
 obtain ⟨J8, h, hR11⟩ := h
 refine GC.meet (α := Bool) J8 (fun x9 => [(34, .bool x9), (0, slv p_data), (1, .int .i64 p_a), (2, .int .i64 p_b), (3, p_cmp), (8, .int .i64 x1), (9, .int .i64 x5)]) ?_ ?_
 obtain ⟨Hs12, hle13, h⟩ := h
 refine GC.any (Hs := Hs12) (by kernel_rfl) hle13 (Zp 0 rfl Ym (Zp 1 rfl Ym (Zp 2 rfl (OV.ibin (v := .bool (decide ((x5 : Int) > p_a))) rfl rfl rfl) (Zp 3 rfl Ym ?_))))
 rcases h.em with ⟨u14, h⟩ | ⟨u14, h⟩
 refine Zg 4 rfl (Yt u14) Ym (Zg 5 rfl (Yt u14) Ym (Zg 6 rfl (Yt u14) Ym ?_))
 obtain ⟨p15, ha16, hb17, u18, hd19, h⟩ := h
 refine Zg 7 rfl (Yt u14) (OV.indexAddr rfl rfl rfl rfl ha16 hb17 u18 hd19) ?_
 obtain ⟨x20, v21, h⟩ := h
 refine Zg 8 rfl (Yt u14) (Yo v21) (Zg 9 rfl (Yt u14) Ym (Zg 10 rfl (Yt u14) Ym (Zg 11 rfl (Yt u14) (OV.ibin (v := .int .i64 (w .i64 (x5 - 1))) rfl rfl rfl) ?_)))
 obtain ⟨p22, ha23, hb24, u25, hd26, h⟩ := h
 refine Zg 12 rfl (Yt u14) (OV.indexAddr rfl rfl rfl rfl ha23 hb24 u25 hd26) ?_
 obtain ⟨x27, v28, h⟩ := h
 refine Zg 13 rfl (Yt u14) (Yo v28) (GA.eff 14 rfl (by kernel_rfl) (GL.callU (xv := p_cmp) (vs := [slv x20, slv x27]) h (Yt u14) rfl rfl rfl ?_))
 rintro _ H31 ⟨r30, rfl, h⟩
 obtain ⟨hle29, h⟩ := h
 refine GA.back hle29 (Zg 15 rfl (Yt u14) (OV.ibin (v := .bool (decide ((r30 : Int) < 0))) rfl rfl rfl) (Zp 16 rfl (OV.pickT rfl u14 rfl) (GA.done (by kernel_rfl) ?_)))
 exact Yj I3 (decide ((r30 : Int) < 0)) h
 refine Zj 4 rfl (Yw u14) (Zj 5 rfl (Yw u14) (Zj 6 rfl (Yw u14) (Zj 7 rfl (Yw u14) (Zj 8 rfl (Yw u14) (Zj 9 rfl (Yw u14) (Zj 10 rfl (Yw u14) (Zj 11 rfl (Yw u14) (Zj 12 rfl (Yw u14) (Zj 13 rfl (Yw u14) (Zj 14 rfl (Yw u14) (Zj 15 rfl (Yw u14) (Zp 16 rfl (OV.pickF rfl u14 rfl) (GA.done (by kernel_rfl) ?_)))))))))))))
 exact Yj I3 false h
 intro x9 H10 h
 replace h := hR11 x9 H10 h
 refine GL.nil (Yd h (fun u32 h => ?_) fun u32 h => ?_)
 refine GC.skip (GC.seq (GC.block ?_))
 obtain ⟨J33, h, hR36⟩ := h
 refine GC.meet (α := Unit) J33 (fun _ => [(0, slv p_data), (1, .int .i64 p_a), (2, .int .i64 p_b), (3, p_cmp), (8, .int .i64 x1), (9, .int .i64 x5)]) ?_ ?_
 obtain ⟨Hs37, hle38, h⟩ := h
 refine GC.tail (Hs := Hs37) 17 (by kernel_rfl) hle38 (by kernel_rfl) (Zy 0 rfl Ym (Zy 1 rfl Ym (Zy 2 rfl Ym (Zy 3 rfl Ym (Zy 4 rfl (OV.ibin (v := .int .i64 (w .i64 (x5 - 1))) rfl rfl rfl) (Zy 5 rfl Ym (Zy 6 rfl Ym (Zy 7 rfl (OV.ibin (v := .int .i64 (w .i64 (x5 - 1))) rfl rfl rfl) ?_))))))))
 obtain ⟨p39, ha40, hb41, u42, hd43, h⟩ := h
 refine Zy 8 rfl (OV.indexAddr rfl rfl rfl rfl ha40 hb41 u42 hd43) (Zy 10 rfl Ym (Zy 11 rfl Ym ?_))
 obtain ⟨p44, ha45, hb46, u47, hd48, h⟩ := h
 refine Zy 12 rfl (OV.indexAddr rfl rfl rfl rfl ha45 hb46 u47 hd48) (GT.effs [9, 13] (by kernel_rfl) (by simp) (List.forall_mem_cons.2 ⟨⟨_, rfl, rfl, ?_⟩, List.forall_mem_cons.2 ⟨⟨_, rfl, rfl, ?_⟩, fun _ h => by cases h⟩⟩))
 replace h := h.1
 refine Yl h fun x50 h => ?_
 obtain ⟨hle49, h⟩ := h
 refine GT.back hle49 (GT.eff 13 rfl (by kernel_rfl) rfl (Yl h fun x53 h => ?_))
 obtain ⟨hle52, h⟩ := h
 refine GT.back hle52 ?_
 obtain ⟨p55, ha56, hb57, u58, hd59, h⟩ := h
 refine Zy 14 rfl (OV.indexAddr rfl rfl rfl rfl ha56 hb57 u58 hd59) (GT.eff 15 rfl (by kernel_rfl) rfl (GL.store (p := (p55.1, p55.2 + (x5 : Int).toNat * 1)) (v := slv x50) h trivial rfl rfl rfl rfl ?_))
 intro H61 h
 obtain ⟨hle60, h⟩ := h
 refine GT.back hle60 ?_
 obtain ⟨p62, ha63, hb64, u65, hd66, h⟩ := h
 refine Zy 16 rfl (OV.indexAddr rfl rfl rfl rfl ha63 hb64 u65 hd66) (GT.done (by kernel_rfl) ?_)
 show GL _ _ _ _ _ [_] _ _
 refine GL.store (p := (p62.1, p62.2 + (w .i64 (x5 - 1) : Int).toNat * 1)) (v := slv x53) h trivial rfl rfl rfl rfl ?_
 intro H67 h
 exact Yj I3 () h
 replace h := h.2
 refine Yl h fun x69 h => ?_
 obtain ⟨hle68, h⟩ := h
 refine GT.back hle68 (GT.eff 9 rfl (by kernel_rfl) rfl (Yl h fun x72 h => ?_))
 obtain ⟨hle71, h⟩ := h
 refine GT.back hle71 ?_
 obtain ⟨p74, ha75, hb76, u77, hd78, h⟩ := h
 refine Zy 14 rfl (OV.indexAddr rfl rfl rfl rfl ha75 hb76 u77 hd78) (GT.eff 15 rfl (by kernel_rfl) rfl (GL.store (p := (p74.1, p74.2 + (x5 : Int).toNat * 1)) (v := slv x72) h trivial rfl rfl rfl rfl ?_))
 intro H80 h
 obtain ⟨hle79, h⟩ := h
 refine GT.back hle79 ?_
 obtain ⟨p81, ha82, hb83, u84, hd85, h⟩ := h
 refine Zy 16 rfl (OV.indexAddr rfl rfl rfl rfl ha82 hb83 u84 hd85) (GT.done (by kernel_rfl) ?_)
 show GL _ _ _ _ _ [_] _ _
 refine GL.store (p := (p81.1, p81.2 + (w .i64 (x5 - 1) : Int).toNat * 1)) (v := slv x69) h trivial rfl rfl rfl rfl ?_
 intro H86 h
 exact Yj I3 () h
 intro x34 H35 h
 replace h := hR36 x34 H35 h
 refine GL.nil_to (fun _ _ h => h) (GC.region (Zm (Zi (.int .i64 (w .i64 (x5 - 1))) (Za ?_))))
 exact Yj I3 (w .i64 (x5 - 1)) h
 refine GC.exit_to (fun _ _ h => h) (GC.region (Zm (Zi (.int .i64 (w .i64 (x1 + 1))) (Za ?_))))
 exact Yj I3 (w .i64 (x1 + 1)) h
 exact GC.exit_ends (fun _ _ hf hs => QO rfl hf hs ⟨rfl, h⟩)
def Qao (C : Ctx) (p_data : Sl) (p_a : Int) (p_m : Int) (p_b : Int) (p_cmp : Value) (K : Heap → Prop) (H : Heap) : Prop :=
 ift (((w .i64 (p_m - p_a)) : Int) == 1)
 (lp (α := Int × Int) (p_m, p_b) H (fun x2 J3 H4 =>
 ift (decide ((x2.1 : Int) < x2.2))
 (dr H4 fun Hs6 =>
 ixa p_data (w .i64 (sShr .u64 (w .u64 (w .i64 (x2.1 + x2.2))) 1)) fun p8 =>
 ldL Hs6 (p8.1, p8.2 + (w .i64 (sShr .u64 (w .u64 (w .i64 (x2.1 + x2.2))) 1) : Int).toNat * 1) fun x13 =>
 ixa p_data p_a fun p15 =>
 ldL Hs6 (p15.1, p15.2 + (p_a : Int).toNat * 1) fun x20 =>
 callU Tryz.prog C p_cmp [slv x13, slv x20] H4 (fun v H24 => ∃ (r23 : Int), v = .int .i64 r23 ∧
 Heap.le Hs6 H24 ∧
 ift (decide ((r23 : Int) < 0))
 (J3 ((w .i64 ((w .i64 (sShr .u64 (w .u64 (w .i64 (x2.1 + x2.2))) 1)) + 1)), x2.2) H24)
 (J3 (x2.1, (w .i64 (sShr .u64 (w .u64 (w .i64 (x2.1 + x2.2))) 1))) H24)))
 (lp (α := Int) p_a H4 (fun x26 J27 H28 =>
 ift (decide ((x26 : Int) < (w .i64 (x2.1 - 1))))
 (jn (α := Unit) (fun x31 H32 =>
 J27 (w .i64 (x26 + 1)) H32)
 (fun J30 => dr H28 fun Hs34 =>
 ixa p_data (w .i64 (x26 + 1)) fun p36 =>
 ixa p_data x26 fun p41 =>
 (ldL H28 (p36.1, p36.2 + (w .i64 (x26 + 1) : Int).toNat * 1) fun x47 =>
 Heap.le Hs34 H28 ∧
 ldL H28 (p41.1, p41.2 + (x26 : Int).toNat * 1) fun x50 =>
 Heap.le Hs34 H28 ∧
 ixa p_data x26 fun p52 =>
 st (p52.1, p52.2 + (x26 : Int).toNat * 1) (slv x47) (fun H58 =>
 Heap.le Hs34 H58 ∧
 ixa p_data (w .i64 (x26 + 1)) fun p59 =>
 st (p59.1, p59.2 + (w .i64 (x26 + 1) : Int).toNat * 1) (slv x50) (fun H64 =>
 J30 () H64) H58) H28) ∧
 (ldL H28 (p41.1, p41.2 + (x26 : Int).toNat * 1) fun x66 =>
 Heap.le Hs34 H28 ∧
 ldL H28 (p36.1, p36.2 + (w .i64 (x26 + 1) : Int).toNat * 1) fun x69 =>
 Heap.le Hs34 H28 ∧
 ixa p_data x26 fun p71 =>
 st (p71.1, p71.2 + (x26 : Int).toNat * 1) (slv x69) (fun H77 =>
 Heap.le Hs34 H77 ∧
 ixa p_data (w .i64 (x26 + 1)) fun p78 =>
 st (p78.1, p78.2 + (w .i64 (x26 + 1) : Int).toNat * 1) (slv x66) (fun H83 =>
 J30 () H83) H77) H28)))
 (K H28)))))
 (ift (((w .i64 (p_b - p_m)) : Int) == 1)
 (lp (α := Int × Int) (p_a, p_m) H (fun x85 J86 H87 =>
 ift (decide ((x85.1 : Int) < x85.2))
 (dr H87 fun Hs89 =>
 ixa p_data p_m fun p91 =>
 ldL Hs89 (p91.1, p91.2 + (p_m : Int).toNat * 1) fun x96 =>
 ixa p_data (w .i64 (sShr .u64 (w .u64 (w .i64 (x85.1 + x85.2))) 1)) fun p98 =>
 ldL Hs89 (p98.1, p98.2 + (w .i64 (sShr .u64 (w .u64 (w .i64 (x85.1 + x85.2))) 1) : Int).toNat * 1) fun x103 =>
 callU Tryz.prog C p_cmp [slv x96, slv x103] H87 (fun v H107 => ∃ (r106 : Int), v = .int .i64 r106 ∧
 Heap.le Hs89 H107 ∧
 ift (!(decide ((r106 : Int) < 0)))
 (J86 ((w .i64 ((w .i64 (sShr .u64 (w .u64 (w .i64 (x85.1 + x85.2))) 1)) + 1)), x85.2) H107)
 (J86 (x85.1, (w .i64 (sShr .u64 (w .u64 (w .i64 (x85.1 + x85.2))) 1))) H107)))
 (lp (α := Int) p_m H87 (fun x109 J110 H111 =>
 ift (decide ((x109 : Int) > x85.1))
 (jn (α := Unit) (fun x114 H115 =>
 J110 (w .i64 (x109 - 1)) H115)
 (fun J113 => dr H111 fun Hs117 =>
 ixa p_data (w .i64 (x109 - 1)) fun p119 =>
 ixa p_data x109 fun p124 =>
 (ldL H111 (p119.1, p119.2 + (w .i64 (x109 - 1) : Int).toNat * 1) fun x130 =>
 Heap.le Hs117 H111 ∧
 ldL H111 (p124.1, p124.2 + (x109 : Int).toNat * 1) fun x133 =>
 Heap.le Hs117 H111 ∧
 ixa p_data x109 fun p135 =>
 st (p135.1, p135.2 + (x109 : Int).toNat * 1) (slv x130) (fun H141 =>
 Heap.le Hs117 H141 ∧
 ixa p_data (w .i64 (x109 - 1)) fun p142 =>
 st (p142.1, p142.2 + (w .i64 (x109 - 1) : Int).toNat * 1) (slv x133) (fun H147 =>
 J113 () H147) H141) H111) ∧
 (ldL H111 (p124.1, p124.2 + (x109 : Int).toNat * 1) fun x149 =>
 Heap.le Hs117 H111 ∧
 ldL H111 (p119.1, p119.2 + (w .i64 (x109 - 1) : Int).toNat * 1) fun x152 =>
 Heap.le Hs117 H111 ∧
 ixa p_data x109 fun p154 =>
 st (p154.1, p154.2 + (x109 : Int).toNat * 1) (slv x152) (fun H160 =>
 Heap.le Hs117 H160 ∧
 ixa p_data (w .i64 (x109 - 1)) fun p161 =>
 st (p161.1, p161.2 + (w .i64 (x109 - 1) : Int).toNat * 1) (slv x149) (fun H166 =>
 J113 () H166) H160) H111)))
 (K H111)))))
 (jn (α := Int × Int) (fun x168 H169 =>
 lp (α := Int × Int) (x168.1, x168.2) H169 (fun x172 J173 H174 =>
 ift (decide ((x172.1 : Int) < x172.2))
 (dr H174 fun Hs176 =>
 ixa p_data (w .i64 ((w .i64 ((w .i64 ((w .i64 (sShr .u64 (w .u64 (w .i64 (p_a + p_b))) 1)) + p_m)) - 1)) - (w .i64 (sShr .u64 (w .u64 (w .i64 (x172.1 + x172.2))) 1)))) fun p178 =>
 ldL Hs176 (p178.1, p178.2 + (w .i64 ((w .i64 ((w .i64 ((w .i64 (sShr .u64 (w .u64 (w .i64 (p_a + p_b))) 1)) + p_m)) - 1)) - (w .i64 (sShr .u64 (w .u64 (w .i64 (x172.1 + x172.2))) 1))) : Int).toNat * 1) fun x183 =>
 ixa p_data (w .i64 (sShr .u64 (w .u64 (w .i64 (x172.1 + x172.2))) 1)) fun p185 =>
 ldL Hs176 (p185.1, p185.2 + (w .i64 (sShr .u64 (w .u64 (w .i64 (x172.1 + x172.2))) 1) : Int).toNat * 1) fun x190 =>
 callU Tryz.prog C p_cmp [slv x183, slv x190] H174 (fun v H194 => ∃ (r193 : Int), v = .int .i64 r193 ∧
 Heap.le Hs176 H194 ∧
 ift (!(decide ((r193 : Int) < 0)))
 (J173 ((w .i64 ((w .i64 (sShr .u64 (w .u64 (w .i64 (x172.1 + x172.2))) 1)) + 1)), x172.2) H194)
 (J173 (x172.1, (w .i64 (sShr .u64 (w .u64 (w .i64 (x172.1 + x172.2))) 1))) H194)))
 (jn (α := Unit) (fun x197 H198 =>
 jn (α := Unit) (fun x204 H205 =>
 ift ((decide (((w .i64 (sShr .u64 (w .u64 (w .i64 (p_a + p_b))) 1)) : Int) < (w .i64 ((w .i64 ((w .i64 (sShr .u64 (w .u64 (w .i64 (p_a + p_b))) 1)) + p_m)) - x172.1)))) && (decide (((w .i64 ((w .i64 ((w .i64 (sShr .u64 (w .u64 (w .i64 (p_a + p_b))) 1)) + p_m)) - x172.1)) : Int) < p_b)))
 (Qh C p_data (w .i64 (sShr .u64 (w .u64 (w .i64 (p_a + p_b))) 1)) (w .i64 ((w .i64 ((w .i64 (sShr .u64 (w .u64 (w .i64 (p_a + p_b))) 1)) + p_m)) - x172.1)) p_b p_cmp (fun H212 =>
 K H212) H205)
 (K H205))
 (fun J203 => ift ((decide ((p_a : Int) < x172.1)) && (decide ((x172.1 : Int) < (w .i64 (sShr .u64 (w .u64 (w .i64 (p_a + p_b))) 1)))))
 (Qh C p_data p_a x172.1 (w .i64 (sShr .u64 (w .u64 (w .i64 (p_a + p_b))) 1)) p_cmp (fun H209 =>
 J203 () H209) H198)
 (J203 () H198)))
 (fun J196 => ift ((decide ((x172.1 : Int) < p_m)) && (decide ((p_m : Int) < (w .i64 ((w .i64 ((w .i64 (sShr .u64 (w .u64 (w .i64 (p_a + p_b))) 1)) + p_m)) - x172.1)))))
 (Q3 C p_data x172.1 p_m (w .i64 ((w .i64 ((w .i64 (sShr .u64 (w .u64 (w .i64 (p_a + p_b))) 1)) + p_m)) - x172.1)) p_cmp (fun H202 =>
 J196 () H202) H174)
 (J196 () H174)))))
 (fun J167 => ift (decide ((p_m : Int) > (w .i64 (sShr .u64 (w .u64 (w .i64 (p_a + p_b))) 1))))
 (J167 ((w .i64 ((w .i64 ((w .i64 (sShr .u64 (w .u64 (w .i64 (p_a + p_b))) 1)) + p_m)) - p_b)), (w .i64 (sShr .u64 (w .u64 (w .i64 (p_a + p_b))) 1))) H)
 (J167 (p_a, p_m) H))))
theorem Qbk (C p_data p_a p_m p_b p_cmp K H) (h : Qao C p_data p_a p_m p_b p_cmp K H) : Qh C p_data p_a p_m p_b p_cmp K H := by
 refine Ye Tryz.func79 rfl Tryz.ntmps79 [(0, slv p_data), (1, .int .i64 p_a), (2, .int .i64 p_m), (3, .int .i64 p_b), (4, p_cmp)] (GC.seq (Zo (Zm (Zm (Zi (.int .i64 (w .i64 (p_m - p_a))) (Zi (.bool (((w .i64 (p_m - p_a)) : Int) == 1)) (GL.nil (Yd h (fun hc1 h => ?_) fun hc1 h => ?_))))))))
 refine Zo (Zm (Za (GL.nil (Zo (Zm (Za (GL.nil (GC.seq (GC.block (Yp h (fun x2 => [(10, .int .i64 x2.1), (11, .int .i64 x2.2), (0, slv p_data), (1, .int .i64 p_a), (4, p_cmp)]) ?_))))))))))
 intro x2 H4 J3 h
 refine GC.seq (Zo (Zm (Zm (Zi (.bool (decide ((x2.1 : Int) < x2.2))) (GL.nil (Yd h (fun hc5 h => ?_) fun hc5 h => ?_))))))
 refine GC.skip (GC.block (Zo (Zm (Zm (Zi (.int .i64 (w .i64 (x2.1 + x2.2))) (Zv (OV.convInt rfl rfl rfl) (Zv (OV.shr rfl rfl (by decide)) (Zv (OV.convInt rfl rfl rfl) (Za (GL.nil (GC.seq ?_)))))))))))
 obtain ⟨Hs6, hle7, h⟩ := h
 refine GC.any (Hs := Hs6) (by kernel_rfl) hle7 (Zp 0 rfl Ym (Zp 1 rfl Ym (Zp 2 rfl Ym ?_)))
 obtain ⟨p8, ha9, hb10, hc11, hd12, h⟩ := h
 refine Zp 3 rfl (OV.indexAddr rfl rfl rfl rfl ha9 hb10 hc11 hd12) ?_
 obtain ⟨x13, v14, h⟩ := h
 refine Zp 4 rfl (Yo v14) (Zp 5 rfl Ym (Zp 6 rfl Ym ?_))
 obtain ⟨p15, ha16, hb17, hc18, hd19, h⟩ := h
 refine Zp 7 rfl (OV.indexAddr rfl rfl rfl rfl ha16 hb17 hc18 hd19) ?_
 obtain ⟨x20, v21, h⟩ := h
 refine Zp 8 rfl (Yo v21) (GA.eff 9 rfl (by kernel_rfl) (GL.callU (xv := p_cmp) (vs := [slv x13, slv x20]) h trivial rfl rfl rfl ?_))
 rintro _ H24 ⟨r23, rfl, h⟩
 obtain ⟨hle22, h⟩ := h
 refine GA.back hle22 (Zp 10 rfl (OV.ibin (v := .bool (decide ((r23 : Int) < 0))) rfl rfl rfl) (GA.done (by kernel_rfl) (GL.nil (Yd h (fun hc25 h => ?_) fun hc25 h => ?_))))
 refine GC.region (Zm (Zi (.int .i64 (w .i64 ((w .i64 (sShr .u64 (w .u64 (w .i64 (x2.1 + x2.2))) 1)) + 1))) (Za ?_)))
 exact Yj I3 ((w .i64 ((w .i64 (sShr .u64 (w .u64 (w .i64 (x2.1 + x2.2))) 1)) + 1)), x2.2) h
 refine GC.region (Zm (Za ?_))
 exact Yj I3 (x2.1, (w .i64 (sShr .u64 (w .u64 (w .i64 (x2.1 + x2.2))) 1))) h
 refine GC.exit_to (fun _ _ h => h) (GC.seq (Zo (Zm (Za (GL.nil (GC.block (Yp h (fun x26 => [(13, .int .i64 x26), (0, slv p_data), (10, .int .i64 x2.1)]) ?_)))))))
 intro x26 H28 J27 h
 refine GC.seq (Zo (Zm (Zm (Zi (.int .i64 (w .i64 (x2.1 - 1))) (Zi (.bool (decide ((x26 : Int) < (w .i64 (x2.1 - 1))))) (GL.nil (Yd h (fun hc29 h => ?_) fun hc29 h => ?_)))))))
 refine GC.skip (GC.seq (GC.block ?_))
 obtain ⟨J30, h, hR33⟩ := h
 refine GC.meet (α := Unit) J30 (fun _ => [(0, slv p_data), (10, .int .i64 x2.1), (13, .int .i64 x26)]) ?_ ?_
 obtain ⟨Hs34, hle35, h⟩ := h
 refine GC.tail (Hs := Hs34) 17 (by kernel_rfl) hle35 (by kernel_rfl) (Zy 0 rfl Ym (Zy 1 rfl Ym (Zy 2 rfl Ym (Zy 3 rfl Ym (Zy 4 rfl (OV.ibin (v := .int .i64 (w .i64 (x26 + 1))) rfl rfl rfl) (Zy 5 rfl Ym (Zy 6 rfl Ym (Zy 7 rfl (OV.ibin (v := .int .i64 (w .i64 (x26 + 1))) rfl rfl rfl) ?_))))))))
 obtain ⟨p36, ha37, hb38, hc39, hd40, h⟩ := h
 refine Zy 8 rfl (OV.indexAddr rfl rfl rfl rfl ha37 hb38 hc39 hd40) (Zy 10 rfl Ym (Zy 11 rfl Ym ?_))
 obtain ⟨p41, ha42, hb43, hc44, hd45, h⟩ := h
 refine Zy 12 rfl (OV.indexAddr rfl rfl rfl rfl ha42 hb43 hc44 hd45) (GT.effs [9, 13] (by kernel_rfl) (by simp) (List.forall_mem_cons.2 ⟨⟨_, rfl, rfl, ?_⟩, List.forall_mem_cons.2 ⟨⟨_, rfl, rfl, ?_⟩, fun _ h => by cases h⟩⟩))
 replace h := h.1
 refine Yl h fun x47 h => ?_
 obtain ⟨hle46, h⟩ := h
 refine GT.back hle46 (GT.eff 13 rfl (by kernel_rfl) rfl (Yl h fun x50 h => ?_))
 obtain ⟨hle49, h⟩ := h
 refine GT.back hle49 ?_
 obtain ⟨p52, ha53, hb54, hc55, hd56, h⟩ := h
 refine Zy 14 rfl (OV.indexAddr rfl rfl rfl rfl ha53 hb54 hc55 hd56) (GT.eff 15 rfl (by kernel_rfl) rfl (GL.store (p := (p52.1, p52.2 + (x26 : Int).toNat * 1)) (v := slv x47) h trivial rfl rfl rfl rfl ?_))
 intro H58 h
 obtain ⟨hle57, h⟩ := h
 refine GT.back hle57 ?_
 obtain ⟨p59, ha60, hb61, hc62, hd63, h⟩ := h
 refine Zy 16 rfl (OV.indexAddr rfl rfl rfl rfl ha60 hb61 hc62 hd63) (GT.done (by kernel_rfl) ?_)
 show GL _ _ _ _ _ [_] _ _
 refine GL.store (p := (p59.1, p59.2 + (w .i64 (x26 + 1) : Int).toNat * 1)) (v := slv x50) h trivial rfl rfl rfl rfl ?_
 intro H64 h
 exact Yj I3 () h
 replace h := h.2
 refine Yl h fun x66 h => ?_
 obtain ⟨hle65, h⟩ := h
 refine GT.back hle65 (GT.eff 9 rfl (by kernel_rfl) rfl (Yl h fun x69 h => ?_))
 obtain ⟨hle68, h⟩ := h
 refine GT.back hle68 ?_
 obtain ⟨p71, ha72, hb73, hc74, hd75, h⟩ := h
 refine Zy 14 rfl (OV.indexAddr rfl rfl rfl rfl ha72 hb73 hc74 hd75) (GT.eff 15 rfl (by kernel_rfl) rfl (GL.store (p := (p71.1, p71.2 + (x26 : Int).toNat * 1)) (v := slv x69) h trivial rfl rfl rfl rfl ?_))
 intro H77 h
 obtain ⟨hle76, h⟩ := h
 refine GT.back hle76 ?_
 obtain ⟨p78, ha79, hb80, hc81, hd82, h⟩ := h
 refine Zy 16 rfl (OV.indexAddr rfl rfl rfl rfl ha79 hb80 hc81 hd82) (GT.done (by kernel_rfl) ?_)
 show GL _ _ _ _ _ [_] _ _
 refine GL.store (p := (p78.1, p78.2 + (w .i64 (x26 + 1) : Int).toNat * 1)) (v := slv x66) h trivial rfl rfl rfl rfl ?_
 intro H83 h
 exact Yj I3 () h
 intro x31 H32 h
 replace h := hR33 x31 H32 h
 refine GL.nil_to (fun _ _ h => h) (GC.region (Zm (Zi (.int .i64 (w .i64 (x26 + 1))) (Za ?_))))
 exact Yj I3 (w .i64 (x26 + 1)) h
 refine GC.exit_to (fun _ _ h => h) ?_
 exact GC.ret (fun _ _ hf hs => QO rfl hf hs ⟨rfl, h⟩)
 refine GC.skip (GC.seq (Zo (Zm (Zm (Zi (.int .i64 (w .i64 (p_b - p_m))) (Zi (.bool (((w .i64 (p_b - p_m)) : Int) == 1)) (GL.nil (Yd h (fun hc84 h => ?_) fun hc84 h => ?_))))))))
 refine Zo (Zm (Za (GL.nil (Zo (Zm (Za (GL.nil (GC.seq (GC.block (Yp h (fun x85 => [(14, .int .i64 x85.1), (15, .int .i64 x85.2), (0, slv p_data), (2, .int .i64 p_m), (4, p_cmp)]) ?_))))))))))
 intro x85 H87 J86 h
 refine GC.seq (Zo (Zm (Zm (Zi (.bool (decide ((x85.1 : Int) < x85.2))) (GL.nil (Yd h (fun hc88 h => ?_) fun hc88 h => ?_))))))
 refine GC.skip (GC.block (Zo (Zm (Zm (Zi (.int .i64 (w .i64 (x85.1 + x85.2))) (Zv (OV.convInt rfl rfl rfl) (Zv (OV.shr rfl rfl (by decide)) (Zv (OV.convInt rfl rfl rfl) (Za (GL.nil (GC.seq ?_)))))))))))
 obtain ⟨Hs89, hle90, h⟩ := h
 refine GC.any (Hs := Hs89) (by kernel_rfl) hle90 (Zp 0 rfl Ym (Zp 1 rfl Ym (Zp 2 rfl Ym ?_)))
 obtain ⟨p91, ha92, hb93, hc94, hd95, h⟩ := h
 refine Zp 3 rfl (OV.indexAddr rfl rfl rfl rfl ha92 hb93 hc94 hd95) ?_
 obtain ⟨x96, v97, h⟩ := h
 refine Zp 4 rfl (Yo v97) (Zp 5 rfl Ym (Zp 6 rfl Ym ?_))
 obtain ⟨p98, ha99, hb100, hc101, hd102, h⟩ := h
 refine Zp 7 rfl (OV.indexAddr rfl rfl rfl rfl ha99 hb100 hc101 hd102) ?_
 obtain ⟨x103, v104, h⟩ := h
 refine Zp 8 rfl (Yo v104) (GA.eff 9 rfl (by kernel_rfl) (GL.callU (xv := p_cmp) (vs := [slv x96, slv x103]) h trivial rfl rfl rfl ?_))
 rintro _ H107 ⟨r106, rfl, h⟩
 obtain ⟨hle105, h⟩ := h
 refine GA.back hle105 (Zp 10 rfl (OV.ibin (v := .bool (decide ((r106 : Int) < 0))) rfl rfl rfl) (Zp 11 rfl (OV.not rfl) (GA.done (by kernel_rfl) (GL.nil (Yd h (fun hc108 h => ?_) fun hc108 h => ?_)))))
 refine GC.region (Zm (Zi (.int .i64 (w .i64 ((w .i64 (sShr .u64 (w .u64 (w .i64 (x85.1 + x85.2))) 1)) + 1))) (Za ?_)))
 exact Yj I3 ((w .i64 ((w .i64 (sShr .u64 (w .u64 (w .i64 (x85.1 + x85.2))) 1)) + 1)), x85.2) h
 refine GC.region (Zm (Za ?_))
 exact Yj I3 (x85.1, (w .i64 (sShr .u64 (w .u64 (w .i64 (x85.1 + x85.2))) 1))) h
 refine GC.exit_to (fun _ _ h => h) (GC.seq (Zo (Zm (Za (GL.nil (GC.block (Yp h (fun x109 => [(17, .int .i64 x109), (0, slv p_data), (14, .int .i64 x85.1)]) ?_)))))))
 intro x109 H111 J110 h
 refine GC.seq (Zo (Zm (Zm (Zi (.bool (decide ((x109 : Int) > x85.1))) (GL.nil (Yd h (fun hc112 h => ?_) fun hc112 h => ?_))))))
 refine GC.skip (GC.seq (GC.block ?_))
 obtain ⟨J113, h, hR116⟩ := h
 refine GC.meet (α := Unit) J113 (fun _ => [(0, slv p_data), (14, .int .i64 x85.1), (17, .int .i64 x109)]) ?_ ?_
 obtain ⟨Hs117, hle118, h⟩ := h
 refine GC.tail (Hs := Hs117) 17 (by kernel_rfl) hle118 (by kernel_rfl) (Zy 0 rfl Ym (Zy 1 rfl Ym (Zy 2 rfl Ym (Zy 3 rfl Ym (Zy 4 rfl (OV.ibin (v := .int .i64 (w .i64 (x109 - 1))) rfl rfl rfl) (Zy 5 rfl Ym (Zy 6 rfl Ym (Zy 7 rfl (OV.ibin (v := .int .i64 (w .i64 (x109 - 1))) rfl rfl rfl) ?_))))))))
 obtain ⟨p119, ha120, hb121, hc122, hd123, h⟩ := h
 refine Zy 8 rfl (OV.indexAddr rfl rfl rfl rfl ha120 hb121 hc122 hd123) (Zy 10 rfl Ym (Zy 11 rfl Ym ?_))
 obtain ⟨p124, ha125, hb126, hc127, hd128, h⟩ := h
 refine Zy 12 rfl (OV.indexAddr rfl rfl rfl rfl ha125 hb126 hc127 hd128) (GT.effs [9, 13] (by kernel_rfl) (by simp) (List.forall_mem_cons.2 ⟨⟨_, rfl, rfl, ?_⟩, List.forall_mem_cons.2 ⟨⟨_, rfl, rfl, ?_⟩, fun _ h => by cases h⟩⟩))
 replace h := h.1
 refine Yl h fun x130 h => ?_
 obtain ⟨hle129, h⟩ := h
 refine GT.back hle129 (GT.eff 13 rfl (by kernel_rfl) rfl (Yl h fun x133 h => ?_))
 obtain ⟨hle132, h⟩ := h
 refine GT.back hle132 ?_
 obtain ⟨p135, ha136, hb137, hc138, hd139, h⟩ := h
 refine Zy 14 rfl (OV.indexAddr rfl rfl rfl rfl ha136 hb137 hc138 hd139) (GT.eff 15 rfl (by kernel_rfl) rfl (GL.store (p := (p135.1, p135.2 + (x109 : Int).toNat * 1)) (v := slv x130) h trivial rfl rfl rfl rfl ?_))
 intro H141 h
 obtain ⟨hle140, h⟩ := h
 refine GT.back hle140 ?_
 obtain ⟨p142, ha143, hb144, hc145, hd146, h⟩ := h
 refine Zy 16 rfl (OV.indexAddr rfl rfl rfl rfl ha143 hb144 hc145 hd146) (GT.done (by kernel_rfl) ?_)
 show GL _ _ _ _ _ [_] _ _
 refine GL.store (p := (p142.1, p142.2 + (w .i64 (x109 - 1) : Int).toNat * 1)) (v := slv x133) h trivial rfl rfl rfl rfl ?_
 intro H147 h
 exact Yj I3 () h
 replace h := h.2
 refine Yl h fun x149 h => ?_
 obtain ⟨hle148, h⟩ := h
 refine GT.back hle148 (GT.eff 9 rfl (by kernel_rfl) rfl (Yl h fun x152 h => ?_))
 obtain ⟨hle151, h⟩ := h
 refine GT.back hle151 ?_
 obtain ⟨p154, ha155, hb156, hc157, hd158, h⟩ := h
 refine Zy 14 rfl (OV.indexAddr rfl rfl rfl rfl ha155 hb156 hc157 hd158) (GT.eff 15 rfl (by kernel_rfl) rfl (GL.store (p := (p154.1, p154.2 + (x109 : Int).toNat * 1)) (v := slv x152) h trivial rfl rfl rfl rfl ?_))
 intro H160 h
 obtain ⟨hle159, h⟩ := h
 refine GT.back hle159 ?_
 obtain ⟨p161, ha162, hb163, hc164, hd165, h⟩ := h
 refine Zy 16 rfl (OV.indexAddr rfl rfl rfl rfl ha162 hb163 hc164 hd165) (GT.done (by kernel_rfl) ?_)
 show GL _ _ _ _ _ [_] _ _
 refine GL.store (p := (p161.1, p161.2 + (w .i64 (x109 - 1) : Int).toNat * 1)) (v := slv x149) h trivial rfl rfl rfl rfl ?_
 intro H166 h
 exact Yj I3 () h
 intro x114 H115 h
 replace h := hR116 x114 H115 h
 refine GL.nil_to (fun _ _ h => h) (GC.region (Zm (Zi (.int .i64 (w .i64 (x109 - 1))) (Za ?_))))
 exact Yj I3 (w .i64 (x109 - 1)) h
 refine GC.exit_to (fun _ _ h => h) ?_
 exact GC.ret (fun _ _ hf hs => QO rfl hf hs ⟨rfl, h⟩)
 refine GC.skip (Zo (Zm (Zm (Zi (.int .i64 (w .i64 (p_a + p_b))) (Zv (OV.convInt rfl rfl rfl) (Zv (OV.shr rfl rfl (by decide)) (Zv (OV.convInt rfl rfl rfl) (Za (GL.nil (Zo (Zm (Zm (Zi (.int .i64 (w .i64 ((w .i64 (sShr .u64 (w .u64 (w .i64 (p_a + p_b))) 1)) + p_m))) (Za (GL.nil (Zo (Za (Za (GL.nil ?_)))))))))))))))))))
 obtain ⟨J167, h, hR170⟩ := h
 refine GC.join (α := Int × Int) J167 (fun x168 => [(20, .int .i64 x168.1), (21, .int .i64 x168.2), (0, slv p_data), (1, .int .i64 p_a), (2, .int .i64 p_m), (3, .int .i64 p_b), (4, p_cmp), (18, .int .i64 (w .i64 (sShr .u64 (w .u64 (w .i64 (p_a + p_b))) 1))), (19, .int .i64 (w .i64 ((w .i64 (sShr .u64 (w .u64 (w .i64 (p_a + p_b))) 1)) + p_m)))]) ?_ ?_
 refine Zo (Zm (Zm (Zi (.bool (decide ((p_m : Int) > (w .i64 (sShr .u64 (w .u64 (w .i64 (p_a + p_b))) 1))))) (GL.nil (Yd h (fun hc171 h => ?_) fun hc171 h => ?_)))))
 refine Zo (Zm (Zm (Zi (.int .i64 (w .i64 ((w .i64 ((w .i64 (sShr .u64 (w .u64 (w .i64 (p_a + p_b))) 1)) + p_m)) - p_b))) (Za (GL.nil (GC.region (Zm (Za ?_))))))))
 exact Yj I3 ((w .i64 ((w .i64 ((w .i64 (sShr .u64 (w .u64 (w .i64 (p_a + p_b))) 1)) + p_m)) - p_b)), (w .i64 (sShr .u64 (w .u64 (w .i64 (p_a + p_b))) 1))) h
 refine Zo (Zm (Za (GL.nil (GC.region (Zm (Za ?_))))))
 exact Yj I3 (p_a, p_m) h
 intro x168 H169 h
 replace h := hR170 x168 H169 h
 refine Zo (Zm (Zi (.int .i64 (w .i64 ((w .i64 ((w .i64 (sShr .u64 (w .u64 (w .i64 (p_a + p_b))) 1)) + p_m)) - 1))) (Za (GL.nil (GC.seq (GC.block (Yp h (fun x172 => [(20, .int .i64 x172.1), (21, .int .i64 x172.2), (0, slv p_data), (1, .int .i64 p_a), (2, .int .i64 p_m), (3, .int .i64 p_b), (4, p_cmp), (18, .int .i64 (w .i64 (sShr .u64 (w .u64 (w .i64 (p_a + p_b))) 1))), (19, .int .i64 (w .i64 ((w .i64 (sShr .u64 (w .u64 (w .i64 (p_a + p_b))) 1)) + p_m))), (22, .int .i64 (w .i64 ((w .i64 ((w .i64 (sShr .u64 (w .u64 (w .i64 (p_a + p_b))) 1)) + p_m)) - 1)))]) ?_)))))))
 intro x172 H174 J173 h
 refine GC.seq (Zo (Zm (Zm (Zi (.bool (decide ((x172.1 : Int) < x172.2))) (GL.nil (Yd h (fun hc175 h => ?_) fun hc175 h => ?_))))))
 refine GC.skip (GC.block (Zo (Zm (Zm (Zi (.int .i64 (w .i64 (x172.1 + x172.2))) (Zv (OV.convInt rfl rfl rfl) (Zv (OV.shr rfl rfl (by decide)) (Zv (OV.convInt rfl rfl rfl) (Za (GL.nil (GC.seq ?_)))))))))))
 obtain ⟨Hs176, hle177, h⟩ := h
 refine GC.any (Hs := Hs176) (by kernel_rfl) hle177 (Zp 0 rfl Ym (Zp 1 rfl Ym (Zp 2 rfl Ym (Zp 3 rfl Ym (Zp 4 rfl (OV.ibin (v := .int .i64 (w .i64 ((w .i64 ((w .i64 ((w .i64 (sShr .u64 (w .u64 (w .i64 (p_a + p_b))) 1)) + p_m)) - 1)) - (w .i64 (sShr .u64 (w .u64 (w .i64 (x172.1 + x172.2))) 1))))) rfl rfl rfl) ?_)))))
 obtain ⟨p178, ha179, hb180, hc181, hd182, h⟩ := h
 refine Zp 5 rfl (OV.indexAddr rfl rfl rfl rfl ha179 hb180 hc181 hd182) ?_
 obtain ⟨x183, v184, h⟩ := h
 refine Zp 6 rfl (Yo v184) (Zp 7 rfl Ym (Zp 8 rfl Ym ?_))
 obtain ⟨p185, ha186, hb187, hc188, hd189, h⟩ := h
 refine Zp 9 rfl (OV.indexAddr rfl rfl rfl rfl ha186 hb187 hc188 hd189) ?_
 obtain ⟨x190, v191, h⟩ := h
 refine Zp 10 rfl (Yo v191) (GA.eff 11 rfl (by kernel_rfl) (GL.callU (xv := p_cmp) (vs := [slv x183, slv x190]) h trivial rfl rfl rfl ?_))
 rintro _ H194 ⟨r193, rfl, h⟩
 obtain ⟨hle192, h⟩ := h
 refine GA.back hle192 (Zp 12 rfl (OV.ibin (v := .bool (decide ((r193 : Int) < 0))) rfl rfl rfl) (Zp 13 rfl (OV.not rfl) (GA.done (by kernel_rfl) (GL.nil (Yd h (fun hc195 h => ?_) fun hc195 h => ?_)))))
 refine GC.region (Zm (Zi (.int .i64 (w .i64 ((w .i64 (sShr .u64 (w .u64 (w .i64 (x172.1 + x172.2))) 1)) + 1))) (Za ?_)))
 exact Yj I3 ((w .i64 ((w .i64 (sShr .u64 (w .u64 (w .i64 (x172.1 + x172.2))) 1)) + 1)), x172.2) h
 refine GC.region (Zm (Za ?_))
 exact Yj I3 (x172.1, (w .i64 (sShr .u64 (w .u64 (w .i64 (x172.1 + x172.2))) 1))) h
 refine GC.exit_to (fun _ _ h => h) (Zo (Zm (Zm (Zi (.int .i64 (w .i64 ((w .i64 ((w .i64 (sShr .u64 (w .u64 (w .i64 (p_a + p_b))) 1)) + p_m)) - x172.1))) (Za (GL.nil ?_))))))
 obtain ⟨J196, h, hR199⟩ := h
 refine GC.join (α := Unit) J196 (fun _ => [(0, slv p_data), (1, .int .i64 p_a), (3, .int .i64 p_b), (4, p_cmp), (18, .int .i64 (w .i64 (sShr .u64 (w .u64 (w .i64 (p_a + p_b))) 1))), (20, .int .i64 x172.1), (24, .int .i64 (w .i64 ((w .i64 ((w .i64 (sShr .u64 (w .u64 (w .i64 (p_a + p_b))) 1)) + p_m)) - x172.1)))]) ?_ ?_
 refine Zo (Zm (Zm (Zi (.bool (decide ((x172.1 : Int) < p_m))) (Zm (GL.cut0 4 [(185, .bool ((decide ((x172.1 : Int) < p_m)) && (decide ((p_m : Int) < (w .i64 ((w .i64 ((w .i64 (sShr .u64 (w .u64 (w .i64 (p_a + p_b))) 1)) + p_m)) - x172.1)))))), (0, slv p_data), (1, .int .i64 p_a), (2, .int .i64 p_m), (3, .int .i64 p_b), (4, p_cmp), (18, .int .i64 (w .i64 (sShr .u64 (w .u64 (w .i64 (p_a + p_b))) 1))), (20, .int .i64 x172.1), (24, .int .i64 (w .i64 ((w .i64 ((w .i64 (sShr .u64 (w .u64 (w .i64 (p_a + p_b))) 1)) + p_m)) - x172.1)))] ?_ ?_)))))
 rcases Zb (decide ((x172.1 : Int) < p_m)) with hc200 | hc200
 refine Zu hc200 Ym (Zu hc200 Ym (Zu hc200 (OV.ibin (v := .bool (decide ((p_m : Int) < (w .i64 ((w .i64 ((w .i64 (sShr .u64 (w .u64 (w .i64 (p_a + p_b))) 1)) + p_m)) - x172.1))))) rfl rfl rfl) (Zt hc200 ?_)))
 exact GL.jump0 (fun _ _ h => h) () rfl ⟨(by rw [hc200]; rfl), rfl, rfl, rfl, rfl, rfl, rfl, rfl, rfl, trivial⟩
 refine Zk hc200 (Zk hc200 (Zk hc200 (Zn hc200 ?_)))
 exact GL.jump0 (fun _ _ h => h) () rfl ⟨(by rw [hc200]; rfl), rfl, rfl, rfl, rfl, rfl, rfl, rfl, rfl, trivial⟩
 refine GL.nil (Yd h (fun hc201 h => ?_) fun hc201 h => ?_)
 refine GC.region (Zm (Zm (Zm (Zm (Zm (Zc h QbB ?_))))))
 rintro _ H202 ⟨rfl, h⟩
 exact Yj I3 () h
 exact Yk I3 () h
 intro x197 H198 h
 replace h := hR199 x197 H198 h
 obtain ⟨J203, h, hR206⟩ := h
 refine GC.join (α := Unit) J203 (fun _ => [(0, slv p_data), (3, .int .i64 p_b), (4, p_cmp), (18, .int .i64 (w .i64 (sShr .u64 (w .u64 (w .i64 (p_a + p_b))) 1))), (24, .int .i64 (w .i64 ((w .i64 ((w .i64 (sShr .u64 (w .u64 (w .i64 (p_a + p_b))) 1)) + p_m)) - x172.1)))]) ?_ ?_
 refine Zo (Zm (Zm (Zi (.bool (decide ((p_a : Int) < x172.1))) (Zm (GL.cut0 4 [(199, .bool ((decide ((p_a : Int) < x172.1)) && (decide ((x172.1 : Int) < (w .i64 (sShr .u64 (w .u64 (w .i64 (p_a + p_b))) 1)))))), (0, slv p_data), (1, .int .i64 p_a), (3, .int .i64 p_b), (4, p_cmp), (18, .int .i64 (w .i64 (sShr .u64 (w .u64 (w .i64 (p_a + p_b))) 1))), (20, .int .i64 x172.1), (24, .int .i64 (w .i64 ((w .i64 ((w .i64 (sShr .u64 (w .u64 (w .i64 (p_a + p_b))) 1)) + p_m)) - x172.1)))] ?_ ?_)))))
 rcases Zb (decide ((p_a : Int) < x172.1)) with hc207 | hc207
 refine Zu hc207 Ym (Zu hc207 Ym (Zu hc207 (OV.ibin (v := .bool (decide ((x172.1 : Int) < (w .i64 (sShr .u64 (w .u64 (w .i64 (p_a + p_b))) 1))))) rfl rfl rfl) (Zt hc207 ?_)))
 exact GL.jump0 (fun _ _ h => h) () rfl ⟨(by rw [hc207]; rfl), rfl, rfl, rfl, rfl, rfl, rfl, rfl, trivial⟩
 refine Zk hc207 (Zk hc207 (Zk hc207 (Zn hc207 ?_)))
 exact GL.jump0 (fun _ _ h => h) () rfl ⟨(by rw [hc207]; rfl), rfl, rfl, rfl, rfl, rfl, rfl, rfl, trivial⟩
 refine GL.nil (Yd h (fun hc208 h => ?_) fun hc208 h => ?_)
 refine GC.region (Zm (Zm (Zm (Zm (Zm (Zc h Qv ?_))))))
 rintro _ H209 ⟨rfl, h⟩
 exact Yj I3 () h
 exact Yk I3 () h
 intro x204 H205 h
 replace h := hR206 x204 H205 h
 refine Zo (Zm (Zm (Zi (.bool (decide (((w .i64 (sShr .u64 (w .u64 (w .i64 (p_a + p_b))) 1)) : Int) < (w .i64 ((w .i64 ((w .i64 (sShr .u64 (w .u64 (w .i64 (p_a + p_b))) 1)) + p_m)) - x172.1))))) (Zm ?_))))
 refine GL.cut0 4 [(213, .bool ((decide (((w .i64 (sShr .u64 (w .u64 (w .i64 (p_a + p_b))) 1)) : Int) < (w .i64 ((w .i64 ((w .i64 (sShr .u64 (w .u64 (w .i64 (p_a + p_b))) 1)) + p_m)) - x172.1)))) && (decide (((w .i64 ((w .i64 ((w .i64 (sShr .u64 (w .u64 (w .i64 (p_a + p_b))) 1)) + p_m)) - x172.1)) : Int) < p_b)))), (0, slv p_data), (3, .int .i64 p_b), (4, p_cmp), (18, .int .i64 (w .i64 (sShr .u64 (w .u64 (w .i64 (p_a + p_b))) 1))), (24, .int .i64 (w .i64 ((w .i64 ((w .i64 (sShr .u64 (w .u64 (w .i64 (p_a + p_b))) 1)) + p_m)) - x172.1)))] ?_ ?_
 rcases Zb (decide (((w .i64 (sShr .u64 (w .u64 (w .i64 (p_a + p_b))) 1)) : Int) < (w .i64 ((w .i64 ((w .i64 (sShr .u64 (w .u64 (w .i64 (p_a + p_b))) 1)) + p_m)) - x172.1)))) with hc210 | hc210
 refine Zu hc210 Ym (Zu hc210 Ym (Zu hc210 (OV.ibin (v := .bool (decide (((w .i64 ((w .i64 ((w .i64 (sShr .u64 (w .u64 (w .i64 (p_a + p_b))) 1)) + p_m)) - x172.1)) : Int) < p_b))) rfl rfl rfl) (Zt hc210 ?_)))
 exact GL.jump0 (fun _ _ h => h) () rfl ⟨(by rw [hc210]; rfl), rfl, rfl, rfl, rfl, rfl, trivial⟩
 refine Zk hc210 (Zk hc210 (Zk hc210 (Zn hc210 ?_)))
 exact GL.jump0 (fun _ _ h => h) () rfl ⟨(by rw [hc210]; rfl), rfl, rfl, rfl, rfl, rfl, trivial⟩
 refine GL.nil (Yd h (fun hc211 h => ?_) fun hc211 h => ?_)
 refine GC.region (Zm (Zm (Zm (Zm (Zm (Zc h Qv ?_))))))
 rintro _ H212 ⟨rfl, h⟩
 exact GL.ends (fun _ _ hf hs => QO rfl hf hs ⟨rfl, h⟩)
 exact GC.ends (fun _ _ hf hs => QO rfl hf hs ⟨rfl, h⟩)
def QC (C : Ctx) (p_data : Sl) (p_a : Int) (p_b : Int) (p_cmp : Value) (K : Heap → Prop) (H : Heap) : Prop :=
 lp (α := Int) (w .i64 (p_a + 1)) H (fun x1 J2 H3 =>
 ift (decide ((x1 : Int) < p_b))
 (lp (α := Int) x1 H3 (fun x5 J6 H7 =>
 jn (α := Bool) (fun x9 H10 =>
 ift x9
 (jn (α := Unit) (fun x34 H35 =>
 J6 (w .i64 (x5 - 1)) H35)
 (fun J33 => dr H10 fun Hs37 =>
 ixa p_data (w .i64 (x5 - 1)) fun p39 =>
 ixa p_data x5 fun p44 =>
 (ldT H10 Qa.c (p39.1, p39.2 + (w .i64 (x5 - 1) : Int).toNat * 2) fun x50 =>
 Heap.le Hs37 H10 ∧
 ldT H10 Qa.c (p44.1, p44.2 + (x5 : Int).toNat * 2) fun x53 =>
 Heap.le Hs37 H10 ∧
 ixa p_data x5 fun p55 =>
 stT (p55.1, p55.2 + (x5 : Int).toNat * 2) (Qa.c x50) (fun H61 =>
 Heap.le Hs37 H61 ∧
 ixa p_data (w .i64 (x5 - 1)) fun p62 =>
 stT (p62.1, p62.2 + (w .i64 (x5 - 1) : Int).toNat * 2) (Qa.c x53) (fun H67 =>
 J33 () H67) H61) H10) ∧
 (ldT H10 Qa.c (p44.1, p44.2 + (x5 : Int).toNat * 2) fun x69 =>
 Heap.le Hs37 H10 ∧
 ldT H10 Qa.c (p39.1, p39.2 + (w .i64 (x5 - 1) : Int).toNat * 2) fun x72 =>
 Heap.le Hs37 H10 ∧
 ixa p_data x5 fun p74 =>
 stT (p74.1, p74.2 + (x5 : Int).toNat * 2) (Qa.c x72) (fun H80 =>
 Heap.le Hs37 H80 ∧
 ixa p_data (w .i64 (x5 - 1)) fun p81 =>
 stT (p81.1, p81.2 + (w .i64 (x5 - 1) : Int).toNat * 2) (Qa.c x69) (fun H86 =>
 J33 () H86) H80) H10)))
 (J2 (w .i64 (x1 + 1)) H10))
 (fun J8 => dr H7 fun Hs12 =>
 ift (decide ((x5 : Int) > p_a))
 (ixa p_data x5 fun p15 =>
 ldT Hs12 Qa.c (p15.1, p15.2 + (x5 : Int).toNat * 2) fun x20 =>
 ixa p_data (w .i64 (x5 - 1)) fun p22 =>
 ldT Hs12 Qa.c (p22.1, p22.2 + (w .i64 (x5 - 1) : Int).toNat * 2) fun x27 =>
 callU Tryz.prog C p_cmp [.agg (Qa.c x20).toArray, .agg (Qa.c x27).toArray] H7 (fun v H31 => ∃ (r30 : Int), v = .int .i64 r30 ∧
 Heap.le Hs12 H31 ∧
 J8 (decide ((r30 : Int) < 0)) H31))
 (J8 false H7))))
 (K H3))
theorem Q7 (C p_data p_a p_b p_cmp K H) (h : QC C p_data p_a p_b p_cmp K H) : Qo C p_data p_a p_b p_cmp K H := by
 refine Ye Tryz.func80 rfl Tryz.ntmps80 [(0, slv p_data), (1, .int .i64 p_a), (2, .int .i64 p_b), (3, p_cmp)] (Zo (Zm (Zi (.int .i64 (w .i64 (p_a + 1))) (Za (GL.nil (GC.block (Yp h (fun x1 => [(8, .int .i64 x1), (0, slv p_data), (1, .int .i64 p_a), (2, .int .i64 p_b), (3, p_cmp)]) ?_)))))))
 intro x1 H3 J2 h
 refine GC.seq (Zo (Zm (Zm (Zi (.bool (decide ((x1 : Int) < p_b))) (GL.nil (Yd h (fun u4 h => ?_) fun u4 h => ?_))))))
 refine GC.skip (GC.seq (GC.block (Zo (Zm (Za (GL.nil (GC.block (Yp h (fun x5 => [(9, .int .i64 x5), (0, slv p_data), (1, .int .i64 p_a), (2, .int .i64 p_b), (3, p_cmp), (8, .int .i64 x1)]) ?_))))))))
 intro x5 H7 J6 h
 refine GC.seq (GC.seq ?_)
 obtain ⟨J8, h, hR11⟩ := h
 refine GC.meet (α := Bool) J8 (fun x9 => [(34, .bool x9), (0, slv p_data), (1, .int .i64 p_a), (2, .int .i64 p_b), (3, p_cmp), (8, .int .i64 x1), (9, .int .i64 x5)]) ?_ ?_
 obtain ⟨Hs12, hle13, h⟩ := h
 refine GC.any (Hs := Hs12) (by kernel_rfl) hle13 (Zp 0 rfl Ym (Zp 1 rfl Ym (Zp 2 rfl (OV.ibin (v := .bool (decide ((x5 : Int) > p_a))) rfl rfl rfl) (Zp 3 rfl Ym ?_))))
 rcases h.em with ⟨u14, h⟩ | ⟨u14, h⟩
 refine Zg 4 rfl (Yt u14) Ym (Zg 5 rfl (Yt u14) Ym (Zg 6 rfl (Yt u14) Ym ?_))
 obtain ⟨p15, ha16, hb17, u18, hd19, h⟩ := h
 refine Zg 7 rfl (Yt u14) (OV.indexAddr rfl rfl rfl rfl ha16 hb17 u18 hd19) ?_
 obtain ⟨x20, v21, h⟩ := h
 refine Zg 8 rfl (Yt u14) (OV.loadT rfl rfl rfl v21) (Zg 9 rfl (Yt u14) Ym (Zg 10 rfl (Yt u14) Ym (Zg 11 rfl (Yt u14) (OV.ibin (v := .int .i64 (w .i64 (x5 - 1))) rfl rfl rfl) ?_)))
 obtain ⟨p22, ha23, hb24, u25, hd26, h⟩ := h
 refine Zg 12 rfl (Yt u14) (OV.indexAddr rfl rfl rfl rfl ha23 hb24 u25 hd26) ?_
 obtain ⟨x27, v28, h⟩ := h
 refine Zg 13 rfl (Yt u14) (OV.loadT rfl rfl rfl v28) (GA.eff 14 rfl (by kernel_rfl) (GL.callU (xv := p_cmp) (vs := [.agg (Qa.c x20).toArray, .agg (Qa.c x27).toArray]) h (Yt u14) rfl rfl rfl ?_))
 rintro _ H31 ⟨r30, rfl, h⟩
 obtain ⟨hle29, h⟩ := h
 refine GA.back hle29 (Zg 15 rfl (Yt u14) (OV.ibin (v := .bool (decide ((r30 : Int) < 0))) rfl rfl rfl) (Zp 16 rfl (OV.pickT rfl u14 rfl) (GA.done (by kernel_rfl) ?_)))
 exact Yj I3 (decide ((r30 : Int) < 0)) h
 refine Zj 4 rfl (Yw u14) (Zj 5 rfl (Yw u14) (Zj 6 rfl (Yw u14) (Zj 7 rfl (Yw u14) (Zj 8 rfl (Yw u14) (Zj 9 rfl (Yw u14) (Zj 10 rfl (Yw u14) (Zj 11 rfl (Yw u14) (Zj 12 rfl (Yw u14) (Zj 13 rfl (Yw u14) (Zj 14 rfl (Yw u14) (Zj 15 rfl (Yw u14) (Zp 16 rfl (OV.pickF rfl u14 rfl) (GA.done (by kernel_rfl) ?_)))))))))))))
 exact Yj I3 false h
 intro x9 H10 h
 replace h := hR11 x9 H10 h
 refine GL.nil (Yd h (fun u32 h => ?_) fun u32 h => ?_)
 refine GC.skip (GC.seq (GC.block ?_))
 obtain ⟨J33, h, hR36⟩ := h
 refine GC.meet (α := Unit) J33 (fun _ => [(0, slv p_data), (1, .int .i64 p_a), (2, .int .i64 p_b), (3, p_cmp), (8, .int .i64 x1), (9, .int .i64 x5)]) ?_ ?_
 obtain ⟨Hs37, hle38, h⟩ := h
 refine GC.tail (Hs := Hs37) 17 (by kernel_rfl) hle38 (by kernel_rfl) (Zy 0 rfl Ym (Zy 1 rfl Ym (Zy 2 rfl Ym (Zy 3 rfl Ym (Zy 4 rfl (OV.ibin (v := .int .i64 (w .i64 (x5 - 1))) rfl rfl rfl) (Zy 5 rfl Ym (Zy 6 rfl Ym (Zy 7 rfl (OV.ibin (v := .int .i64 (w .i64 (x5 - 1))) rfl rfl rfl) ?_))))))))
 obtain ⟨p39, ha40, hb41, u42, hd43, h⟩ := h
 refine Zy 8 rfl (OV.indexAddr rfl rfl rfl rfl ha40 hb41 u42 hd43) (Zy 10 rfl Ym (Zy 11 rfl Ym ?_))
 obtain ⟨p44, ha45, hb46, u47, hd48, h⟩ := h
 refine Zy 12 rfl (OV.indexAddr rfl rfl rfl rfl ha45 hb46 u47 hd48) (GT.effs [9, 13] (by kernel_rfl) (by simp) (List.forall_mem_cons.2 ⟨⟨_, rfl, rfl, ?_⟩, List.forall_mem_cons.2 ⟨⟨_, rfl, rfl, ?_⟩, fun _ h => by cases h⟩⟩))
 replace h := h.1
 obtain ⟨x50, v51, h⟩ := h
 refine Zv (OV.loadT rfl rfl rfl v51) ?_
 obtain ⟨hle49, h⟩ := h
 refine GT.back hle49 (GT.eff 13 rfl (by kernel_rfl) rfl ?_)
 obtain ⟨x53, v54, h⟩ := h
 refine Zv (OV.loadT rfl rfl rfl v54) ?_
 obtain ⟨hle52, h⟩ := h
 refine GT.back hle52 ?_
 obtain ⟨p55, ha56, hb57, u58, hd59, h⟩ := h
 refine Zy 14 rfl (OV.indexAddr rfl rfl rfl rfl ha56 hb57 u58 hd59) (GT.eff 15 rfl (by kernel_rfl) rfl (GL.storeT (p := (p55.1, p55.2 + (x5 : Int).toNat * 2)) (vs := Qa.c x50) h trivial rfl rfl rfl rfl ?_))
 intro H61 h
 obtain ⟨hle60, h⟩ := h
 refine GT.back hle60 ?_
 obtain ⟨p62, ha63, hb64, u65, hd66, h⟩ := h
 refine Zy 16 rfl (OV.indexAddr rfl rfl rfl rfl ha63 hb64 u65 hd66) (GT.done (by kernel_rfl) ?_)
 show GL _ _ _ _ _ [_] _ _
 refine GL.storeT (p := (p62.1, p62.2 + (w .i64 (x5 - 1) : Int).toNat * 2)) (vs := Qa.c x53) h trivial rfl rfl rfl rfl ?_
 intro H67 h
 exact Yj I3 () h
 replace h := h.2
 obtain ⟨x69, v70, h⟩ := h
 refine Zv (OV.loadT rfl rfl rfl v70) ?_
 obtain ⟨hle68, h⟩ := h
 refine GT.back hle68 (GT.eff 9 rfl (by kernel_rfl) rfl ?_)
 obtain ⟨x72, v73, h⟩ := h
 refine Zv (OV.loadT rfl rfl rfl v73) ?_
 obtain ⟨hle71, h⟩ := h
 refine GT.back hle71 ?_
 obtain ⟨p74, ha75, hb76, u77, hd78, h⟩ := h
 refine Zy 14 rfl (OV.indexAddr rfl rfl rfl rfl ha75 hb76 u77 hd78) (GT.eff 15 rfl (by kernel_rfl) rfl (GL.storeT (p := (p74.1, p74.2 + (x5 : Int).toNat * 2)) (vs := Qa.c x72) h trivial rfl rfl rfl rfl ?_))
 intro H80 h
 obtain ⟨hle79, h⟩ := h
 refine GT.back hle79 ?_
 obtain ⟨p81, ha82, hb83, u84, hd85, h⟩ := h
 refine Zy 16 rfl (OV.indexAddr rfl rfl rfl rfl ha82 hb83 u84 hd85) (GT.done (by kernel_rfl) ?_)
 show GL _ _ _ _ _ [_] _ _
 refine GL.storeT (p := (p81.1, p81.2 + (w .i64 (x5 - 1) : Int).toNat * 2)) (vs := Qa.c x69) h trivial rfl rfl rfl rfl ?_
 intro H86 h
 exact Yj I3 () h
 intro x34 H35 h
 replace h := hR36 x34 H35 h
 refine GL.nil_to (fun _ _ h => h) (GC.region (Zm (Zi (.int .i64 (w .i64 (x5 - 1))) (Za ?_))))
 exact Yj I3 (w .i64 (x5 - 1)) h
 refine GC.exit_to (fun _ _ h => h) (GC.region (Zm (Zi (.int .i64 (w .i64 (x1 + 1))) (Za ?_))))
 exact Yj I3 (w .i64 (x1 + 1)) h
 exact GC.exit_ends (fun _ _ hf hs => QO rfl hf hs ⟨rfl, h⟩)
def Qak (C : Ctx) (p_data : Sl) (p_a : Int) (p_m : Int) (p_b : Int) (p_cmp : Value) (K : Heap → Prop) (H : Heap) : Prop :=
 ift (((w .i64 (p_m - p_a)) : Int) == 1)
 (lp (α := Int × Int) (p_m, p_b) H (fun x2 J3 H4 =>
 ift (decide ((x2.1 : Int) < x2.2))
 (dr H4 fun Hs6 =>
 ixa p_data (w .i64 (sShr .u64 (w .u64 (w .i64 (x2.1 + x2.2))) 1)) fun p8 =>
 ldT Hs6 Qa.c (p8.1, p8.2 + (w .i64 (sShr .u64 (w .u64 (w .i64 (x2.1 + x2.2))) 1) : Int).toNat * 2) fun x13 =>
 ixa p_data p_a fun p15 =>
 ldT Hs6 Qa.c (p15.1, p15.2 + (p_a : Int).toNat * 2) fun x20 =>
 callU Tryz.prog C p_cmp [.agg (Qa.c x13).toArray, .agg (Qa.c x20).toArray] H4 (fun v H24 => ∃ (r23 : Int), v = .int .i64 r23 ∧
 Heap.le Hs6 H24 ∧
 ift (decide ((r23 : Int) < 0))
 (J3 ((w .i64 ((w .i64 (sShr .u64 (w .u64 (w .i64 (x2.1 + x2.2))) 1)) + 1)), x2.2) H24)
 (J3 (x2.1, (w .i64 (sShr .u64 (w .u64 (w .i64 (x2.1 + x2.2))) 1))) H24)))
 (lp (α := Int) p_a H4 (fun x26 J27 H28 =>
 ift (decide ((x26 : Int) < (w .i64 (x2.1 - 1))))
 (jn (α := Unit) (fun x31 H32 =>
 J27 (w .i64 (x26 + 1)) H32)
 (fun J30 => dr H28 fun Hs34 =>
 ixa p_data (w .i64 (x26 + 1)) fun p36 =>
 ixa p_data x26 fun p41 =>
 (ldT H28 Qa.c (p36.1, p36.2 + (w .i64 (x26 + 1) : Int).toNat * 2) fun x47 =>
 Heap.le Hs34 H28 ∧
 ldT H28 Qa.c (p41.1, p41.2 + (x26 : Int).toNat * 2) fun x50 =>
 Heap.le Hs34 H28 ∧
 ixa p_data x26 fun p52 =>
 stT (p52.1, p52.2 + (x26 : Int).toNat * 2) (Qa.c x47) (fun H58 =>
 Heap.le Hs34 H58 ∧
 ixa p_data (w .i64 (x26 + 1)) fun p59 =>
 stT (p59.1, p59.2 + (w .i64 (x26 + 1) : Int).toNat * 2) (Qa.c x50) (fun H64 =>
 J30 () H64) H58) H28) ∧
 (ldT H28 Qa.c (p41.1, p41.2 + (x26 : Int).toNat * 2) fun x66 =>
 Heap.le Hs34 H28 ∧
 ldT H28 Qa.c (p36.1, p36.2 + (w .i64 (x26 + 1) : Int).toNat * 2) fun x69 =>
 Heap.le Hs34 H28 ∧
 ixa p_data x26 fun p71 =>
 stT (p71.1, p71.2 + (x26 : Int).toNat * 2) (Qa.c x69) (fun H77 =>
 Heap.le Hs34 H77 ∧
 ixa p_data (w .i64 (x26 + 1)) fun p78 =>
 stT (p78.1, p78.2 + (w .i64 (x26 + 1) : Int).toNat * 2) (Qa.c x66) (fun H83 =>
 J30 () H83) H77) H28)))
 (K H28)))))
 (ift (((w .i64 (p_b - p_m)) : Int) == 1)
 (lp (α := Int × Int) (p_a, p_m) H (fun x85 J86 H87 =>
 ift (decide ((x85.1 : Int) < x85.2))
 (dr H87 fun Hs89 =>
 ixa p_data p_m fun p91 =>
 ldT Hs89 Qa.c (p91.1, p91.2 + (p_m : Int).toNat * 2) fun x96 =>
 ixa p_data (w .i64 (sShr .u64 (w .u64 (w .i64 (x85.1 + x85.2))) 1)) fun p98 =>
 ldT Hs89 Qa.c (p98.1, p98.2 + (w .i64 (sShr .u64 (w .u64 (w .i64 (x85.1 + x85.2))) 1) : Int).toNat * 2) fun x103 =>
 callU Tryz.prog C p_cmp [.agg (Qa.c x96).toArray, .agg (Qa.c x103).toArray] H87 (fun v H107 => ∃ (r106 : Int), v = .int .i64 r106 ∧
 Heap.le Hs89 H107 ∧
 ift (!(decide ((r106 : Int) < 0)))
 (J86 ((w .i64 ((w .i64 (sShr .u64 (w .u64 (w .i64 (x85.1 + x85.2))) 1)) + 1)), x85.2) H107)
 (J86 (x85.1, (w .i64 (sShr .u64 (w .u64 (w .i64 (x85.1 + x85.2))) 1))) H107)))
 (lp (α := Int) p_m H87 (fun x109 J110 H111 =>
 ift (decide ((x109 : Int) > x85.1))
 (jn (α := Unit) (fun x114 H115 =>
 J110 (w .i64 (x109 - 1)) H115)
 (fun J113 => dr H111 fun Hs117 =>
 ixa p_data (w .i64 (x109 - 1)) fun p119 =>
 ixa p_data x109 fun p124 =>
 (ldT H111 Qa.c (p119.1, p119.2 + (w .i64 (x109 - 1) : Int).toNat * 2) fun x130 =>
 Heap.le Hs117 H111 ∧
 ldT H111 Qa.c (p124.1, p124.2 + (x109 : Int).toNat * 2) fun x133 =>
 Heap.le Hs117 H111 ∧
 ixa p_data x109 fun p135 =>
 stT (p135.1, p135.2 + (x109 : Int).toNat * 2) (Qa.c x130) (fun H141 =>
 Heap.le Hs117 H141 ∧
 ixa p_data (w .i64 (x109 - 1)) fun p142 =>
 stT (p142.1, p142.2 + (w .i64 (x109 - 1) : Int).toNat * 2) (Qa.c x133) (fun H147 =>
 J113 () H147) H141) H111) ∧
 (ldT H111 Qa.c (p124.1, p124.2 + (x109 : Int).toNat * 2) fun x149 =>
 Heap.le Hs117 H111 ∧
 ldT H111 Qa.c (p119.1, p119.2 + (w .i64 (x109 - 1) : Int).toNat * 2) fun x152 =>
 Heap.le Hs117 H111 ∧
 ixa p_data x109 fun p154 =>
 stT (p154.1, p154.2 + (x109 : Int).toNat * 2) (Qa.c x152) (fun H160 =>
 Heap.le Hs117 H160 ∧
 ixa p_data (w .i64 (x109 - 1)) fun p161 =>
 stT (p161.1, p161.2 + (w .i64 (x109 - 1) : Int).toNat * 2) (Qa.c x149) (fun H166 =>
 J113 () H166) H160) H111)))
 (K H111)))))
 (jn (α := Int × Int) (fun x168 H169 =>
 lp (α := Int × Int) (x168.1, x168.2) H169 (fun x172 J173 H174 =>
 ift (decide ((x172.1 : Int) < x172.2))
 (dr H174 fun Hs176 =>
 ixa p_data (w .i64 ((w .i64 ((w .i64 ((w .i64 (sShr .u64 (w .u64 (w .i64 (p_a + p_b))) 1)) + p_m)) - 1)) - (w .i64 (sShr .u64 (w .u64 (w .i64 (x172.1 + x172.2))) 1)))) fun p178 =>
 ldT Hs176 Qa.c (p178.1, p178.2 + (w .i64 ((w .i64 ((w .i64 ((w .i64 (sShr .u64 (w .u64 (w .i64 (p_a + p_b))) 1)) + p_m)) - 1)) - (w .i64 (sShr .u64 (w .u64 (w .i64 (x172.1 + x172.2))) 1))) : Int).toNat * 2) fun x183 =>
 ixa p_data (w .i64 (sShr .u64 (w .u64 (w .i64 (x172.1 + x172.2))) 1)) fun p185 =>
 ldT Hs176 Qa.c (p185.1, p185.2 + (w .i64 (sShr .u64 (w .u64 (w .i64 (x172.1 + x172.2))) 1) : Int).toNat * 2) fun x190 =>
 callU Tryz.prog C p_cmp [.agg (Qa.c x183).toArray, .agg (Qa.c x190).toArray] H174 (fun v H194 => ∃ (r193 : Int), v = .int .i64 r193 ∧
 Heap.le Hs176 H194 ∧
 ift (!(decide ((r193 : Int) < 0)))
 (J173 ((w .i64 ((w .i64 (sShr .u64 (w .u64 (w .i64 (x172.1 + x172.2))) 1)) + 1)), x172.2) H194)
 (J173 (x172.1, (w .i64 (sShr .u64 (w .u64 (w .i64 (x172.1 + x172.2))) 1))) H194)))
 (jn (α := Unit) (fun x197 H198 =>
 jn (α := Unit) (fun x204 H205 =>
 ift ((decide (((w .i64 (sShr .u64 (w .u64 (w .i64 (p_a + p_b))) 1)) : Int) < (w .i64 ((w .i64 ((w .i64 (sShr .u64 (w .u64 (w .i64 (p_a + p_b))) 1)) + p_m)) - x172.1)))) && (decide (((w .i64 ((w .i64 ((w .i64 (sShr .u64 (w .u64 (w .i64 (p_a + p_b))) 1)) + p_m)) - x172.1)) : Int) < p_b)))
 (Qg C p_data (w .i64 (sShr .u64 (w .u64 (w .i64 (p_a + p_b))) 1)) (w .i64 ((w .i64 ((w .i64 (sShr .u64 (w .u64 (w .i64 (p_a + p_b))) 1)) + p_m)) - x172.1)) p_b p_cmp (fun H212 =>
 K H212) H205)
 (K H205))
 (fun J203 => ift ((decide ((p_a : Int) < x172.1)) && (decide ((x172.1 : Int) < (w .i64 (sShr .u64 (w .u64 (w .i64 (p_a + p_b))) 1)))))
 (Qg C p_data p_a x172.1 (w .i64 (sShr .u64 (w .u64 (w .i64 (p_a + p_b))) 1)) p_cmp (fun H209 =>
 J203 () H209) H198)
 (J203 () H198)))
 (fun J196 => ift ((decide ((x172.1 : Int) < p_m)) && (decide ((p_m : Int) < (w .i64 ((w .i64 ((w .i64 (sShr .u64 (w .u64 (w .i64 (p_a + p_b))) 1)) + p_m)) - x172.1)))))
 (QT C p_data x172.1 p_m (w .i64 ((w .i64 ((w .i64 (sShr .u64 (w .u64 (w .i64 (p_a + p_b))) 1)) + p_m)) - x172.1)) p_cmp (fun H202 =>
 J196 () H202) H174)
 (J196 () H174)))))
 (fun J167 => ift (decide ((p_m : Int) > (w .i64 (sShr .u64 (w .u64 (w .i64 (p_a + p_b))) 1))))
 (J167 ((w .i64 ((w .i64 ((w .i64 (sShr .u64 (w .u64 (w .i64 (p_a + p_b))) 1)) + p_m)) - p_b)), (w .i64 (sShr .u64 (w .u64 (w .i64 (p_a + p_b))) 1))) H)
 (J167 (p_a, p_m) H))))
theorem Qbe (C p_data p_a p_m p_b p_cmp K H) (h : Qak C p_data p_a p_m p_b p_cmp K H) : Qg C p_data p_a p_m p_b p_cmp K H := by
 refine Ye Tryz.func81 rfl Tryz.ntmps81 [(0, slv p_data), (1, .int .i64 p_a), (2, .int .i64 p_m), (3, .int .i64 p_b), (4, p_cmp)] (GC.seq (Zo (Zm (Zm (Zi (.int .i64 (w .i64 (p_m - p_a))) (Zi (.bool (((w .i64 (p_m - p_a)) : Int) == 1)) (GL.nil (Yd h (fun hc1 h => ?_) fun hc1 h => ?_))))))))
 refine Zo (Zm (Za (GL.nil (Zo (Zm (Za (GL.nil (GC.seq (GC.block (Yp h (fun x2 => [(10, .int .i64 x2.1), (11, .int .i64 x2.2), (0, slv p_data), (1, .int .i64 p_a), (4, p_cmp)]) ?_))))))))))
 intro x2 H4 J3 h
 refine GC.seq (Zo (Zm (Zm (Zi (.bool (decide ((x2.1 : Int) < x2.2))) (GL.nil (Yd h (fun hc5 h => ?_) fun hc5 h => ?_))))))
 refine GC.skip (GC.block (Zo (Zm (Zm (Zi (.int .i64 (w .i64 (x2.1 + x2.2))) (Zv (OV.convInt rfl rfl rfl) (Zv (OV.shr rfl rfl (by decide)) (Zv (OV.convInt rfl rfl rfl) (Za (GL.nil (GC.seq ?_)))))))))))
 obtain ⟨Hs6, hle7, h⟩ := h
 refine GC.any (Hs := Hs6) (by kernel_rfl) hle7 (Zp 0 rfl Ym (Zp 1 rfl Ym (Zp 2 rfl Ym ?_)))
 obtain ⟨p8, ha9, hb10, hc11, hd12, h⟩ := h
 refine Zp 3 rfl (OV.indexAddr rfl rfl rfl rfl ha9 hb10 hc11 hd12) ?_
 obtain ⟨x13, v14, h⟩ := h
 refine Zp 4 rfl (OV.loadT rfl rfl rfl v14) (Zp 5 rfl Ym (Zp 6 rfl Ym ?_))
 obtain ⟨p15, ha16, hb17, hc18, hd19, h⟩ := h
 refine Zp 7 rfl (OV.indexAddr rfl rfl rfl rfl ha16 hb17 hc18 hd19) ?_
 obtain ⟨x20, v21, h⟩ := h
 refine Zp 8 rfl (OV.loadT rfl rfl rfl v21) (GA.eff 9 rfl (by kernel_rfl) (GL.callU (xv := p_cmp) (vs := [.agg (Qa.c x13).toArray, .agg (Qa.c x20).toArray]) h trivial rfl rfl rfl ?_))
 rintro _ H24 ⟨r23, rfl, h⟩
 obtain ⟨hle22, h⟩ := h
 refine GA.back hle22 (Zp 10 rfl (OV.ibin (v := .bool (decide ((r23 : Int) < 0))) rfl rfl rfl) (GA.done (by kernel_rfl) (GL.nil (Yd h (fun hc25 h => ?_) fun hc25 h => ?_))))
 refine GC.region (Zm (Zi (.int .i64 (w .i64 ((w .i64 (sShr .u64 (w .u64 (w .i64 (x2.1 + x2.2))) 1)) + 1))) (Za ?_)))
 exact Yj I3 ((w .i64 ((w .i64 (sShr .u64 (w .u64 (w .i64 (x2.1 + x2.2))) 1)) + 1)), x2.2) h
 refine GC.region (Zm (Za ?_))
 exact Yj I3 (x2.1, (w .i64 (sShr .u64 (w .u64 (w .i64 (x2.1 + x2.2))) 1))) h
 refine GC.exit_to (fun _ _ h => h) (GC.seq (Zo (Zm (Za (GL.nil (GC.block (Yp h (fun x26 => [(13, .int .i64 x26), (0, slv p_data), (10, .int .i64 x2.1)]) ?_)))))))
 intro x26 H28 J27 h
 refine GC.seq (Zo (Zm (Zm (Zi (.int .i64 (w .i64 (x2.1 - 1))) (Zi (.bool (decide ((x26 : Int) < (w .i64 (x2.1 - 1))))) (GL.nil (Yd h (fun hc29 h => ?_) fun hc29 h => ?_)))))))
 refine GC.skip (GC.seq (GC.block ?_))
 obtain ⟨J30, h, hR33⟩ := h
 refine GC.meet (α := Unit) J30 (fun _ => [(0, slv p_data), (10, .int .i64 x2.1), (13, .int .i64 x26)]) ?_ ?_
 obtain ⟨Hs34, hle35, h⟩ := h
 refine GC.tail (Hs := Hs34) 17 (by kernel_rfl) hle35 (by kernel_rfl) (Zy 0 rfl Ym (Zy 1 rfl Ym (Zy 2 rfl Ym (Zy 3 rfl Ym (Zy 4 rfl (OV.ibin (v := .int .i64 (w .i64 (x26 + 1))) rfl rfl rfl) (Zy 5 rfl Ym (Zy 6 rfl Ym (Zy 7 rfl (OV.ibin (v := .int .i64 (w .i64 (x26 + 1))) rfl rfl rfl) ?_))))))))
 obtain ⟨p36, ha37, hb38, hc39, hd40, h⟩ := h
 refine Zy 8 rfl (OV.indexAddr rfl rfl rfl rfl ha37 hb38 hc39 hd40) (Zy 10 rfl Ym (Zy 11 rfl Ym ?_))
 obtain ⟨p41, ha42, hb43, hc44, hd45, h⟩ := h
 refine Zy 12 rfl (OV.indexAddr rfl rfl rfl rfl ha42 hb43 hc44 hd45) (GT.effs [9, 13] (by kernel_rfl) (by simp) (List.forall_mem_cons.2 ⟨⟨_, rfl, rfl, ?_⟩, List.forall_mem_cons.2 ⟨⟨_, rfl, rfl, ?_⟩, fun _ h => by cases h⟩⟩))
 replace h := h.1
 obtain ⟨x47, v48, h⟩ := h
 refine Zv (OV.loadT rfl rfl rfl v48) ?_
 obtain ⟨hle46, h⟩ := h
 refine GT.back hle46 (GT.eff 13 rfl (by kernel_rfl) rfl ?_)
 obtain ⟨x50, v51, h⟩ := h
 refine Zv (OV.loadT rfl rfl rfl v51) ?_
 obtain ⟨hle49, h⟩ := h
 refine GT.back hle49 ?_
 obtain ⟨p52, ha53, hb54, hc55, hd56, h⟩ := h
 refine Zy 14 rfl (OV.indexAddr rfl rfl rfl rfl ha53 hb54 hc55 hd56) (GT.eff 15 rfl (by kernel_rfl) rfl (GL.storeT (p := (p52.1, p52.2 + (x26 : Int).toNat * 2)) (vs := Qa.c x47) h trivial rfl rfl rfl rfl ?_))
 intro H58 h
 obtain ⟨hle57, h⟩ := h
 refine GT.back hle57 ?_
 obtain ⟨p59, ha60, hb61, hc62, hd63, h⟩ := h
 refine Zy 16 rfl (OV.indexAddr rfl rfl rfl rfl ha60 hb61 hc62 hd63) (GT.done (by kernel_rfl) ?_)
 show GL _ _ _ _ _ [_] _ _
 refine GL.storeT (p := (p59.1, p59.2 + (w .i64 (x26 + 1) : Int).toNat * 2)) (vs := Qa.c x50) h trivial rfl rfl rfl rfl ?_
 intro H64 h
 exact Yj I3 () h
 replace h := h.2
 obtain ⟨x66, v67, h⟩ := h
 refine Zv (OV.loadT rfl rfl rfl v67) ?_
 obtain ⟨hle65, h⟩ := h
 refine GT.back hle65 (GT.eff 9 rfl (by kernel_rfl) rfl ?_)
 obtain ⟨x69, v70, h⟩ := h
 refine Zv (OV.loadT rfl rfl rfl v70) ?_
 obtain ⟨hle68, h⟩ := h
 refine GT.back hle68 ?_
 obtain ⟨p71, ha72, hb73, hc74, hd75, h⟩ := h
 refine Zy 14 rfl (OV.indexAddr rfl rfl rfl rfl ha72 hb73 hc74 hd75) (GT.eff 15 rfl (by kernel_rfl) rfl (GL.storeT (p := (p71.1, p71.2 + (x26 : Int).toNat * 2)) (vs := Qa.c x69) h trivial rfl rfl rfl rfl ?_))
 intro H77 h
 obtain ⟨hle76, h⟩ := h
 refine GT.back hle76 ?_
 obtain ⟨p78, ha79, hb80, hc81, hd82, h⟩ := h
 refine Zy 16 rfl (OV.indexAddr rfl rfl rfl rfl ha79 hb80 hc81 hd82) (GT.done (by kernel_rfl) ?_)
 show GL _ _ _ _ _ [_] _ _
 refine GL.storeT (p := (p78.1, p78.2 + (w .i64 (x26 + 1) : Int).toNat * 2)) (vs := Qa.c x66) h trivial rfl rfl rfl rfl ?_
 intro H83 h
 exact Yj I3 () h
 intro x31 H32 h
 replace h := hR33 x31 H32 h
 refine GL.nil_to (fun _ _ h => h) (GC.region (Zm (Zi (.int .i64 (w .i64 (x26 + 1))) (Za ?_))))
 exact Yj I3 (w .i64 (x26 + 1)) h
 refine GC.exit_to (fun _ _ h => h) ?_
 exact GC.ret (fun _ _ hf hs => QO rfl hf hs ⟨rfl, h⟩)
 refine GC.skip (GC.seq (Zo (Zm (Zm (Zi (.int .i64 (w .i64 (p_b - p_m))) (Zi (.bool (((w .i64 (p_b - p_m)) : Int) == 1)) (GL.nil (Yd h (fun hc84 h => ?_) fun hc84 h => ?_))))))))
 refine Zo (Zm (Za (GL.nil (Zo (Zm (Za (GL.nil (GC.seq (GC.block (Yp h (fun x85 => [(14, .int .i64 x85.1), (15, .int .i64 x85.2), (0, slv p_data), (2, .int .i64 p_m), (4, p_cmp)]) ?_))))))))))
 intro x85 H87 J86 h
 refine GC.seq (Zo (Zm (Zm (Zi (.bool (decide ((x85.1 : Int) < x85.2))) (GL.nil (Yd h (fun hc88 h => ?_) fun hc88 h => ?_))))))
 refine GC.skip (GC.block (Zo (Zm (Zm (Zi (.int .i64 (w .i64 (x85.1 + x85.2))) (Zv (OV.convInt rfl rfl rfl) (Zv (OV.shr rfl rfl (by decide)) (Zv (OV.convInt rfl rfl rfl) (Za (GL.nil (GC.seq ?_)))))))))))
 obtain ⟨Hs89, hle90, h⟩ := h
 refine GC.any (Hs := Hs89) (by kernel_rfl) hle90 (Zp 0 rfl Ym (Zp 1 rfl Ym (Zp 2 rfl Ym ?_)))
 obtain ⟨p91, ha92, hb93, hc94, hd95, h⟩ := h
 refine Zp 3 rfl (OV.indexAddr rfl rfl rfl rfl ha92 hb93 hc94 hd95) ?_
 obtain ⟨x96, v97, h⟩ := h
 refine Zp 4 rfl (OV.loadT rfl rfl rfl v97) (Zp 5 rfl Ym (Zp 6 rfl Ym ?_))
 obtain ⟨p98, ha99, hb100, hc101, hd102, h⟩ := h
 refine Zp 7 rfl (OV.indexAddr rfl rfl rfl rfl ha99 hb100 hc101 hd102) ?_
 obtain ⟨x103, v104, h⟩ := h
 refine Zp 8 rfl (OV.loadT rfl rfl rfl v104) (GA.eff 9 rfl (by kernel_rfl) (GL.callU (xv := p_cmp) (vs := [.agg (Qa.c x96).toArray, .agg (Qa.c x103).toArray]) h trivial rfl rfl rfl ?_))
 rintro _ H107 ⟨r106, rfl, h⟩
 obtain ⟨hle105, h⟩ := h
 refine GA.back hle105 (Zp 10 rfl (OV.ibin (v := .bool (decide ((r106 : Int) < 0))) rfl rfl rfl) (Zp 11 rfl (OV.not rfl) (GA.done (by kernel_rfl) (GL.nil (Yd h (fun hc108 h => ?_) fun hc108 h => ?_)))))
 refine GC.region (Zm (Zi (.int .i64 (w .i64 ((w .i64 (sShr .u64 (w .u64 (w .i64 (x85.1 + x85.2))) 1)) + 1))) (Za ?_)))
 exact Yj I3 ((w .i64 ((w .i64 (sShr .u64 (w .u64 (w .i64 (x85.1 + x85.2))) 1)) + 1)), x85.2) h
 refine GC.region (Zm (Za ?_))
 exact Yj I3 (x85.1, (w .i64 (sShr .u64 (w .u64 (w .i64 (x85.1 + x85.2))) 1))) h
 refine GC.exit_to (fun _ _ h => h) (GC.seq (Zo (Zm (Za (GL.nil (GC.block (Yp h (fun x109 => [(17, .int .i64 x109), (0, slv p_data), (14, .int .i64 x85.1)]) ?_)))))))
 intro x109 H111 J110 h
 refine GC.seq (Zo (Zm (Zm (Zi (.bool (decide ((x109 : Int) > x85.1))) (GL.nil (Yd h (fun hc112 h => ?_) fun hc112 h => ?_))))))
 refine GC.skip (GC.seq (GC.block ?_))
 obtain ⟨J113, h, hR116⟩ := h
 refine GC.meet (α := Unit) J113 (fun _ => [(0, slv p_data), (14, .int .i64 x85.1), (17, .int .i64 x109)]) ?_ ?_
 obtain ⟨Hs117, hle118, h⟩ := h
 refine GC.tail (Hs := Hs117) 17 (by kernel_rfl) hle118 (by kernel_rfl) (Zy 0 rfl Ym (Zy 1 rfl Ym (Zy 2 rfl Ym (Zy 3 rfl Ym (Zy 4 rfl (OV.ibin (v := .int .i64 (w .i64 (x109 - 1))) rfl rfl rfl) (Zy 5 rfl Ym (Zy 6 rfl Ym (Zy 7 rfl (OV.ibin (v := .int .i64 (w .i64 (x109 - 1))) rfl rfl rfl) ?_))))))))
 obtain ⟨p119, ha120, hb121, hc122, hd123, h⟩ := h
 refine Zy 8 rfl (OV.indexAddr rfl rfl rfl rfl ha120 hb121 hc122 hd123) (Zy 10 rfl Ym (Zy 11 rfl Ym ?_))
 obtain ⟨p124, ha125, hb126, hc127, hd128, h⟩ := h
 refine Zy 12 rfl (OV.indexAddr rfl rfl rfl rfl ha125 hb126 hc127 hd128) (GT.effs [9, 13] (by kernel_rfl) (by simp) (List.forall_mem_cons.2 ⟨⟨_, rfl, rfl, ?_⟩, List.forall_mem_cons.2 ⟨⟨_, rfl, rfl, ?_⟩, fun _ h => by cases h⟩⟩))
 replace h := h.1
 obtain ⟨x130, v131, h⟩ := h
 refine Zv (OV.loadT rfl rfl rfl v131) ?_
 obtain ⟨hle129, h⟩ := h
 refine GT.back hle129 (GT.eff 13 rfl (by kernel_rfl) rfl ?_)
 obtain ⟨x133, v134, h⟩ := h
 refine Zv (OV.loadT rfl rfl rfl v134) ?_
 obtain ⟨hle132, h⟩ := h
 refine GT.back hle132 ?_
 obtain ⟨p135, ha136, hb137, hc138, hd139, h⟩ := h
 refine Zy 14 rfl (OV.indexAddr rfl rfl rfl rfl ha136 hb137 hc138 hd139) (GT.eff 15 rfl (by kernel_rfl) rfl (GL.storeT (p := (p135.1, p135.2 + (x109 : Int).toNat * 2)) (vs := Qa.c x130) h trivial rfl rfl rfl rfl ?_))
 intro H141 h
 obtain ⟨hle140, h⟩ := h
 refine GT.back hle140 ?_
 obtain ⟨p142, ha143, hb144, hc145, hd146, h⟩ := h
 refine Zy 16 rfl (OV.indexAddr rfl rfl rfl rfl ha143 hb144 hc145 hd146) (GT.done (by kernel_rfl) ?_)
 show GL _ _ _ _ _ [_] _ _
 refine GL.storeT (p := (p142.1, p142.2 + (w .i64 (x109 - 1) : Int).toNat * 2)) (vs := Qa.c x133) h trivial rfl rfl rfl rfl ?_
 intro H147 h
 exact Yj I3 () h
 replace h := h.2
 obtain ⟨x149, v150, h⟩ := h
 refine Zv (OV.loadT rfl rfl rfl v150) ?_
 obtain ⟨hle148, h⟩ := h
 refine GT.back hle148 (GT.eff 9 rfl (by kernel_rfl) rfl ?_)
 obtain ⟨x152, v153, h⟩ := h
 refine Zv (OV.loadT rfl rfl rfl v153) ?_
 obtain ⟨hle151, h⟩ := h
 refine GT.back hle151 ?_
 obtain ⟨p154, ha155, hb156, hc157, hd158, h⟩ := h
 refine Zy 14 rfl (OV.indexAddr rfl rfl rfl rfl ha155 hb156 hc157 hd158) (GT.eff 15 rfl (by kernel_rfl) rfl (GL.storeT (p := (p154.1, p154.2 + (x109 : Int).toNat * 2)) (vs := Qa.c x152) h trivial rfl rfl rfl rfl ?_))
 intro H160 h
 obtain ⟨hle159, h⟩ := h
 refine GT.back hle159 ?_
 obtain ⟨p161, ha162, hb163, hc164, hd165, h⟩ := h
 refine Zy 16 rfl (OV.indexAddr rfl rfl rfl rfl ha162 hb163 hc164 hd165) (GT.done (by kernel_rfl) ?_)
 show GL _ _ _ _ _ [_] _ _
 refine GL.storeT (p := (p161.1, p161.2 + (w .i64 (x109 - 1) : Int).toNat * 2)) (vs := Qa.c x149) h trivial rfl rfl rfl rfl ?_
 intro H166 h
 exact Yj I3 () h
 intro x114 H115 h
 replace h := hR116 x114 H115 h
 refine GL.nil_to (fun _ _ h => h) (GC.region (Zm (Zi (.int .i64 (w .i64 (x109 - 1))) (Za ?_))))
 exact Yj I3 (w .i64 (x109 - 1)) h
 refine GC.exit_to (fun _ _ h => h) ?_
 exact GC.ret (fun _ _ hf hs => QO rfl hf hs ⟨rfl, h⟩)
 refine GC.skip (Zo (Zm (Zm (Zi (.int .i64 (w .i64 (p_a + p_b))) (Zv (OV.convInt rfl rfl rfl) (Zv (OV.shr rfl rfl (by decide)) (Zv (OV.convInt rfl rfl rfl) (Za (GL.nil (Zo (Zm (Zm (Zi (.int .i64 (w .i64 ((w .i64 (sShr .u64 (w .u64 (w .i64 (p_a + p_b))) 1)) + p_m))) (Za (GL.nil (Zo (Za (Za (GL.nil ?_)))))))))))))))))))
 obtain ⟨J167, h, hR170⟩ := h
 refine GC.join (α := Int × Int) J167 (fun x168 => [(20, .int .i64 x168.1), (21, .int .i64 x168.2), (0, slv p_data), (1, .int .i64 p_a), (2, .int .i64 p_m), (3, .int .i64 p_b), (4, p_cmp), (18, .int .i64 (w .i64 (sShr .u64 (w .u64 (w .i64 (p_a + p_b))) 1))), (19, .int .i64 (w .i64 ((w .i64 (sShr .u64 (w .u64 (w .i64 (p_a + p_b))) 1)) + p_m)))]) ?_ ?_
 refine Zo (Zm (Zm (Zi (.bool (decide ((p_m : Int) > (w .i64 (sShr .u64 (w .u64 (w .i64 (p_a + p_b))) 1))))) (GL.nil (Yd h (fun hc171 h => ?_) fun hc171 h => ?_)))))
 refine Zo (Zm (Zm (Zi (.int .i64 (w .i64 ((w .i64 ((w .i64 (sShr .u64 (w .u64 (w .i64 (p_a + p_b))) 1)) + p_m)) - p_b))) (Za (GL.nil (GC.region (Zm (Za ?_))))))))
 exact Yj I3 ((w .i64 ((w .i64 ((w .i64 (sShr .u64 (w .u64 (w .i64 (p_a + p_b))) 1)) + p_m)) - p_b)), (w .i64 (sShr .u64 (w .u64 (w .i64 (p_a + p_b))) 1))) h
 refine Zo (Zm (Za (GL.nil (GC.region (Zm (Za ?_))))))
 exact Yj I3 (p_a, p_m) h
 intro x168 H169 h
 replace h := hR170 x168 H169 h
 refine Zo (Zm (Zi (.int .i64 (w .i64 ((w .i64 ((w .i64 (sShr .u64 (w .u64 (w .i64 (p_a + p_b))) 1)) + p_m)) - 1))) (Za (GL.nil (GC.seq (GC.block (Yp h (fun x172 => [(20, .int .i64 x172.1), (21, .int .i64 x172.2), (0, slv p_data), (1, .int .i64 p_a), (2, .int .i64 p_m), (3, .int .i64 p_b), (4, p_cmp), (18, .int .i64 (w .i64 (sShr .u64 (w .u64 (w .i64 (p_a + p_b))) 1))), (19, .int .i64 (w .i64 ((w .i64 (sShr .u64 (w .u64 (w .i64 (p_a + p_b))) 1)) + p_m))), (22, .int .i64 (w .i64 ((w .i64 ((w .i64 (sShr .u64 (w .u64 (w .i64 (p_a + p_b))) 1)) + p_m)) - 1)))]) ?_)))))))
 intro x172 H174 J173 h
 refine GC.seq (Zo (Zm (Zm (Zi (.bool (decide ((x172.1 : Int) < x172.2))) (GL.nil (Yd h (fun hc175 h => ?_) fun hc175 h => ?_))))))
 refine GC.skip (GC.block (Zo (Zm (Zm (Zi (.int .i64 (w .i64 (x172.1 + x172.2))) (Zv (OV.convInt rfl rfl rfl) (Zv (OV.shr rfl rfl (by decide)) (Zv (OV.convInt rfl rfl rfl) (Za (GL.nil (GC.seq ?_)))))))))))
 obtain ⟨Hs176, hle177, h⟩ := h
 refine GC.any (Hs := Hs176) (by kernel_rfl) hle177 (Zp 0 rfl Ym (Zp 1 rfl Ym (Zp 2 rfl Ym (Zp 3 rfl Ym (Zp 4 rfl (OV.ibin (v := .int .i64 (w .i64 ((w .i64 ((w .i64 ((w .i64 (sShr .u64 (w .u64 (w .i64 (p_a + p_b))) 1)) + p_m)) - 1)) - (w .i64 (sShr .u64 (w .u64 (w .i64 (x172.1 + x172.2))) 1))))) rfl rfl rfl) ?_)))))
 obtain ⟨p178, ha179, hb180, hc181, hd182, h⟩ := h
 refine Zp 5 rfl (OV.indexAddr rfl rfl rfl rfl ha179 hb180 hc181 hd182) ?_
 obtain ⟨x183, v184, h⟩ := h
 refine Zp 6 rfl (OV.loadT rfl rfl rfl v184) (Zp 7 rfl Ym (Zp 8 rfl Ym ?_))
 obtain ⟨p185, ha186, hb187, hc188, hd189, h⟩ := h
 refine Zp 9 rfl (OV.indexAddr rfl rfl rfl rfl ha186 hb187 hc188 hd189) ?_
 obtain ⟨x190, v191, h⟩ := h
 refine Zp 10 rfl (OV.loadT rfl rfl rfl v191) (GA.eff 11 rfl (by kernel_rfl) (GL.callU (xv := p_cmp) (vs := [.agg (Qa.c x183).toArray, .agg (Qa.c x190).toArray]) h trivial rfl rfl rfl ?_))
 rintro _ H194 ⟨r193, rfl, h⟩
 obtain ⟨hle192, h⟩ := h
 refine GA.back hle192 (Zp 12 rfl (OV.ibin (v := .bool (decide ((r193 : Int) < 0))) rfl rfl rfl) (Zp 13 rfl (OV.not rfl) (GA.done (by kernel_rfl) (GL.nil (Yd h (fun hc195 h => ?_) fun hc195 h => ?_)))))
 refine GC.region (Zm (Zi (.int .i64 (w .i64 ((w .i64 (sShr .u64 (w .u64 (w .i64 (x172.1 + x172.2))) 1)) + 1))) (Za ?_)))
 exact Yj I3 ((w .i64 ((w .i64 (sShr .u64 (w .u64 (w .i64 (x172.1 + x172.2))) 1)) + 1)), x172.2) h
 refine GC.region (Zm (Za ?_))
 exact Yj I3 (x172.1, (w .i64 (sShr .u64 (w .u64 (w .i64 (x172.1 + x172.2))) 1))) h
 refine GC.exit_to (fun _ _ h => h) (Zo (Zm (Zm (Zi (.int .i64 (w .i64 ((w .i64 ((w .i64 (sShr .u64 (w .u64 (w .i64 (p_a + p_b))) 1)) + p_m)) - x172.1))) (Za (GL.nil ?_))))))
 obtain ⟨J196, h, hR199⟩ := h
 refine GC.join (α := Unit) J196 (fun _ => [(0, slv p_data), (1, .int .i64 p_a), (3, .int .i64 p_b), (4, p_cmp), (18, .int .i64 (w .i64 (sShr .u64 (w .u64 (w .i64 (p_a + p_b))) 1))), (20, .int .i64 x172.1), (24, .int .i64 (w .i64 ((w .i64 ((w .i64 (sShr .u64 (w .u64 (w .i64 (p_a + p_b))) 1)) + p_m)) - x172.1)))]) ?_ ?_
 refine Zo (Zm (Zm (Zi (.bool (decide ((x172.1 : Int) < p_m))) (Zm (GL.cut0 4 [(185, .bool ((decide ((x172.1 : Int) < p_m)) && (decide ((p_m : Int) < (w .i64 ((w .i64 ((w .i64 (sShr .u64 (w .u64 (w .i64 (p_a + p_b))) 1)) + p_m)) - x172.1)))))), (0, slv p_data), (1, .int .i64 p_a), (2, .int .i64 p_m), (3, .int .i64 p_b), (4, p_cmp), (18, .int .i64 (w .i64 (sShr .u64 (w .u64 (w .i64 (p_a + p_b))) 1))), (20, .int .i64 x172.1), (24, .int .i64 (w .i64 ((w .i64 ((w .i64 (sShr .u64 (w .u64 (w .i64 (p_a + p_b))) 1)) + p_m)) - x172.1)))] ?_ ?_)))))
 rcases Zb (decide ((x172.1 : Int) < p_m)) with hc200 | hc200
 refine Zu hc200 Ym (Zu hc200 Ym (Zu hc200 (OV.ibin (v := .bool (decide ((p_m : Int) < (w .i64 ((w .i64 ((w .i64 (sShr .u64 (w .u64 (w .i64 (p_a + p_b))) 1)) + p_m)) - x172.1))))) rfl rfl rfl) (Zt hc200 ?_)))
 exact GL.jump0 (fun _ _ h => h) () rfl ⟨(by rw [hc200]; rfl), rfl, rfl, rfl, rfl, rfl, rfl, rfl, rfl, trivial⟩
 refine Zk hc200 (Zk hc200 (Zk hc200 (Zn hc200 ?_)))
 exact GL.jump0 (fun _ _ h => h) () rfl ⟨(by rw [hc200]; rfl), rfl, rfl, rfl, rfl, rfl, rfl, rfl, rfl, trivial⟩
 refine GL.nil (Yd h (fun hc201 h => ?_) fun hc201 h => ?_)
 refine GC.region (Zm (Zm (Zm (Zm (Zm (Zc h Qbt ?_))))))
 rintro _ H202 ⟨rfl, h⟩
 exact Yj I3 () h
 exact Yk I3 () h
 intro x197 H198 h
 replace h := hR199 x197 H198 h
 obtain ⟨J203, h, hR206⟩ := h
 refine GC.join (α := Unit) J203 (fun _ => [(0, slv p_data), (3, .int .i64 p_b), (4, p_cmp), (18, .int .i64 (w .i64 (sShr .u64 (w .u64 (w .i64 (p_a + p_b))) 1))), (24, .int .i64 (w .i64 ((w .i64 ((w .i64 (sShr .u64 (w .u64 (w .i64 (p_a + p_b))) 1)) + p_m)) - x172.1)))]) ?_ ?_
 refine Zo (Zm (Zm (Zi (.bool (decide ((p_a : Int) < x172.1))) (Zm (GL.cut0 4 [(199, .bool ((decide ((p_a : Int) < x172.1)) && (decide ((x172.1 : Int) < (w .i64 (sShr .u64 (w .u64 (w .i64 (p_a + p_b))) 1)))))), (0, slv p_data), (1, .int .i64 p_a), (3, .int .i64 p_b), (4, p_cmp), (18, .int .i64 (w .i64 (sShr .u64 (w .u64 (w .i64 (p_a + p_b))) 1))), (20, .int .i64 x172.1), (24, .int .i64 (w .i64 ((w .i64 ((w .i64 (sShr .u64 (w .u64 (w .i64 (p_a + p_b))) 1)) + p_m)) - x172.1)))] ?_ ?_)))))
 rcases Zb (decide ((p_a : Int) < x172.1)) with hc207 | hc207
 refine Zu hc207 Ym (Zu hc207 Ym (Zu hc207 (OV.ibin (v := .bool (decide ((x172.1 : Int) < (w .i64 (sShr .u64 (w .u64 (w .i64 (p_a + p_b))) 1))))) rfl rfl rfl) (Zt hc207 ?_)))
 exact GL.jump0 (fun _ _ h => h) () rfl ⟨(by rw [hc207]; rfl), rfl, rfl, rfl, rfl, rfl, rfl, rfl, trivial⟩
 refine Zk hc207 (Zk hc207 (Zk hc207 (Zn hc207 ?_)))
 exact GL.jump0 (fun _ _ h => h) () rfl ⟨(by rw [hc207]; rfl), rfl, rfl, rfl, rfl, rfl, rfl, rfl, trivial⟩
 refine GL.nil (Yd h (fun hc208 h => ?_) fun hc208 h => ?_)
 refine GC.region (Zm (Zm (Zm (Zm (Zm (Zc h Qs ?_))))))
 rintro _ H209 ⟨rfl, h⟩
 exact Yj I3 () h
 exact Yk I3 () h
 intro x204 H205 h
 replace h := hR206 x204 H205 h
 refine Zo (Zm (Zm (Zi (.bool (decide (((w .i64 (sShr .u64 (w .u64 (w .i64 (p_a + p_b))) 1)) : Int) < (w .i64 ((w .i64 ((w .i64 (sShr .u64 (w .u64 (w .i64 (p_a + p_b))) 1)) + p_m)) - x172.1))))) (Zm ?_))))
 refine GL.cut0 4 [(213, .bool ((decide (((w .i64 (sShr .u64 (w .u64 (w .i64 (p_a + p_b))) 1)) : Int) < (w .i64 ((w .i64 ((w .i64 (sShr .u64 (w .u64 (w .i64 (p_a + p_b))) 1)) + p_m)) - x172.1)))) && (decide (((w .i64 ((w .i64 ((w .i64 (sShr .u64 (w .u64 (w .i64 (p_a + p_b))) 1)) + p_m)) - x172.1)) : Int) < p_b)))), (0, slv p_data), (3, .int .i64 p_b), (4, p_cmp), (18, .int .i64 (w .i64 (sShr .u64 (w .u64 (w .i64 (p_a + p_b))) 1))), (24, .int .i64 (w .i64 ((w .i64 ((w .i64 (sShr .u64 (w .u64 (w .i64 (p_a + p_b))) 1)) + p_m)) - x172.1)))] ?_ ?_
 rcases Zb (decide (((w .i64 (sShr .u64 (w .u64 (w .i64 (p_a + p_b))) 1)) : Int) < (w .i64 ((w .i64 ((w .i64 (sShr .u64 (w .u64 (w .i64 (p_a + p_b))) 1)) + p_m)) - x172.1)))) with hc210 | hc210
 refine Zu hc210 Ym (Zu hc210 Ym (Zu hc210 (OV.ibin (v := .bool (decide (((w .i64 ((w .i64 ((w .i64 (sShr .u64 (w .u64 (w .i64 (p_a + p_b))) 1)) + p_m)) - x172.1)) : Int) < p_b))) rfl rfl rfl) (Zt hc210 ?_)))
 exact GL.jump0 (fun _ _ h => h) () rfl ⟨(by rw [hc210]; rfl), rfl, rfl, rfl, rfl, rfl, trivial⟩
 refine Zk hc210 (Zk hc210 (Zk hc210 (Zn hc210 ?_)))
 exact GL.jump0 (fun _ _ h => h) () rfl ⟨(by rw [hc210]; rfl), rfl, rfl, rfl, rfl, rfl, trivial⟩
 refine GL.nil (Yd h (fun hc211 h => ?_) fun hc211 h => ?_)
 refine GC.region (Zm (Zm (Zm (Zm (Zm (Zc h Qs ?_))))))
 rintro _ H212 ⟨rfl, h⟩
 exact GL.ends (fun _ _ hf hs => QO rfl hf hs ⟨rfl, h⟩)
 exact GC.ends (fun _ _ hf hs => QO rfl hf hs ⟨rfl, h⟩)
def Qco (C : Ctx) (p_x : Int) (K : Bool → Heap → Prop) (H : Heap) : Prop :=
 K ((p_x : Int) != p_x) H
theorem QdN (C p_x K H) (h : Qco C p_x K H) : Qa8 C p_x K H := by
 refine Ye Tryz.func85 rfl Tryz.ntmps85 [(0, .int .u8 p_x)] (Zo (Za (GL.nil (Zo (Zm (Zm (Zi (.bool ((p_x : Int) != p_x)) (Za (GL.nil ?_)))))))))
 exact Y1 I3 ⟨((p_x : Int) != p_x), rfl, h⟩
def QbV (C : Ctx) (p_s : Str) (p_prefix : Str) (K : Bool → Heap → Prop) (H : Heap) : Prop :=
 QF C p_s p_prefix (fun r1 H2 =>
 K r1 H2) H
theorem Qdk (C p_s p_prefix K H) (h : QbV C p_s p_prefix K H) : QaK C p_s p_prefix K H := by
 refine Ye Tryz.func86 rfl Tryz.ntmps86 [(0, sv p_s), (1, sv p_prefix)] (Zo (Za (GL.nil (Zo (Zm (Zm (Zc h Qaz ?_)))))))
 rintro _ H2 ⟨r1, rfl, h⟩
 refine Za (GL.nil ?_)
 exact Y1 I3 ⟨r1, rfl, h⟩
def Qcm (C : Ctx) (p_x : Int) (p_y : Int) (K : Int → Heap → Prop) (H : Heap) : Prop :=
 Qbz C p_x (fun r1 H2 =>
 Qbz C p_y (fun r3 H4 =>
 ift r1
 (ift r3
 (K 0 H4)
 (K (-1) H4))
 (ift r3
 (K 1 H4)
 (ift (decide ((p_x : Int) < p_y))
 (K (-1) H4)
 (ift (decide ((p_x : Int) > p_y))
 (K 1 H4)
 (K 0 H4))))) H2) H
theorem QdL (C p_x p_y K H) (h : Qcm C p_x p_y K H) : QbF C p_x p_y K H := by
 refine Ye Tryz.func87 rfl Tryz.ntmps87 [(0, .int .i64 p_x), (1, .int .i64 p_y)] (Zo (Za (GL.nil (Zo (Zm (Zc h QcS ?_))))))
 rintro _ H2 ⟨r1, rfl, h⟩
 refine Za (GL.nil (Zo (Zm (Zc h QcS ?_))))
 rintro _ H4 ⟨r3, rfl, h⟩
 refine Za (GL.nil (GC.seq (Zo (Zm (GL.nil (Yd h (fun u5 h => ?_) fun u5 h => ?_))))))
 refine GC.seq (Zo (Zm (GL.nil (Yd h (fun u6 h => ?_) fun u6 h => ?_))))
 refine Zo (Za (GL.nil ?_))
 exact Y1 I3 ⟨0, rfl, h⟩
 refine GC.skip (Zo (Za (GL.nil ?_)))
 exact Y1 I3 ⟨(-1), rfl, h⟩
 refine GC.skip (GC.seq (Zo (Zm (GL.nil (Yd h (fun u7 h => ?_) fun u7 h => ?_)))))
 refine Zo (Za (GL.nil ?_))
 exact Y1 I3 ⟨1, rfl, h⟩
 refine GC.skip (GC.seq (Zo (Zm (Zm (Zi (.bool (decide ((p_x : Int) < p_y))) (GL.nil (Yd h (fun u8 h => ?_) fun u8 h => ?_)))))))
 refine Zo (Za (GL.nil ?_))
 exact Y1 I3 ⟨(-1), rfl, h⟩
 refine GC.skip (GC.seq (Zo (Zm (Zm (Zi (.bool (decide ((p_x : Int) > p_y))) (GL.nil (Yd h (fun u9 h => ?_) fun u9 h => ?_)))))))
 refine Zo (Za (GL.nil ?_))
 exact Y1 I3 ⟨1, rfl, h⟩
 refine GC.skip (Zo (Za (GL.nil ?_)))
 exact Y1 I3 ⟨0, rfl, h⟩
def Qca (C : Ctx) (p_x : Str) (K : Bool → Heap → Prop) (H : Heap) : Prop :=
 K (!(p_x == p_x)) H
theorem QdC (C p_x K H) (h : Qca C p_x K H) : QaY C p_x K H := by
 refine Ye Tryz.func88 rfl Tryz.ntmps88 [(0, sv p_x)] (Zo (Za (GL.nil (Zo (Zm (Zm (Zv (OV.sbin (a := p_x) (b := p_x) (v := .bool (!(p_x == p_x))) rfl rfl rfl) (Za (GL.nil ?_)))))))))
 exact Y1 I3 ⟨(!(p_x == p_x)), rfl, h⟩
def Qcn (C : Ctx) (p_x : Int) (K : Bool → Heap → Prop) (H : Heap) : Prop :=
 K ((p_x : Int) != p_x) H
theorem QdM (C p_x K H) (h : Qcn C p_x K H) : Qa7 C p_x K H := by
 refine Ye Tryz.func89 rfl Tryz.ntmps89 [(0, .int .i64 p_x)] (Zo (Za (GL.nil (Zo (Zm (Zm (Zi (.bool ((p_x : Int) != p_x)) (Za (GL.nil ?_)))))))))
 exact Y1 I3 ⟨((p_x : Int) != p_x), rfl, h⟩
def Qar (C : Ctx) (p_s : Str) (p_prefix : Str) (K : Str → Heap → Prop) (H : Heap) : Prop :=
 QF C p_s p_prefix (fun r1 H2 =>
 ift r1
 (slS p_s (List.length p_prefix : Int) (List.length p_s : Int) fun t4 =>
 K t4 H2)
 (K p_s H2)) H
theorem Qbq (C p_s p_prefix K H) (h : Qar C p_s p_prefix K H) : Qav C p_s p_prefix K H := by
 refine Ye Tryz.func90 rfl Tryz.ntmps90 [(0, sv p_s), (1, sv p_prefix)] (Zo (Za (GL.nil (GC.seq (Zo (Zm (Zm (Zc h Qaz ?_))))))))
 rintro _ H2 ⟨r1, rfl, h⟩
 refine GL.nil (Yd h (fun u3 h => ?_) fun u3 h => ?_)
 refine Zo (Zm (Zm (Zr ?_)))
 obtain ⟨h5, h6, h7, t4, h8, h⟩ := h
 refine Zv (OV.sliceStr (s := p_s) h5 h6 h7 h8 rfl rfl rfl rfl rfl rfl) (Za (GL.nil ?_))
 exact Y1 I3 ⟨t4, rfl, h⟩
 refine GC.skip (Zo (Zm (Za (GL.nil ?_))))
 exact Y1 I3 ⟨p_s, rfl, h⟩
def QbE (C : Ctx) (p_chars : Str) (K : List Value → Bool → Heap → Prop) (H : Heap) : Prop :=
 nw ((List.replicate 256 (.bool false : Value))) (fun b1 H2 =>
 lp (α := Int) 0 H2 (fun x3 J4 H5 =>
 ift (decide ((x3 : Int) < (List.length p_chars : Int)))
 (ixs p_chars x3 fun c7 =>
 ift (decide (((c7.toNat : Int) : Int) ≥ 128))
 (ldC H5 256 (b1, 0) fun x11 =>
 stC 256 (b1, 0) x11 (fun H14 =>
 ldC H14 256 (b1, 0) fun x17 =>
 K x17 false H14) H5)
 (ixr (b1, 0) 256 (c7.toNat : Int) <|
 st ((b1, 0).1, (b1, 0).2 + ((c7.toNat : Int) : Int).toNat * 1) (.bool true) (fun H22 =>
 J4 (w .i64 (x3 + 1)) H22) H5))
 (ldC H5 256 (b1, 0) fun x23 =>
 stC 256 (b1, 0) x23 (fun H26 =>
 ldC H26 256 (b1, 0) fun x29 =>
 K x29 true H26) H5))) H
theorem QcF (C p_chars K H) (h : QbE C p_chars K H) : Qz C p_chars K H := by
 refine Ye Tryz.func93 rfl Tryz.ntmps93 [(0, sv p_chars)] (Zo (GL.alloc (cs := (List.replicate 256 (.bool false : Value))) h trivial rfl rfl rfl ?_))
 intro b1 H2 h
 refine Za (GL.nil (GC.seq (Zo (Za (GL.nil (GC.block (Yp h (fun x3 => [(4, .int .i64 x3), (0, sv p_chars), (2, pv (some (b1, 0)))]) ?_)))))))
 intro x3 H5 J4 h
 refine GC.seq (Zo (Zm (Zm (Zr (Zi (.bool (decide ((x3 : Int) < (List.length p_chars : Int)))) (GL.nil (Yd h (fun u6 h => ?_) fun u6 h => ?_)))))))
 refine GC.skip (GC.seq (GC.block (Zo (Zm (Zm (Ys h fun c7 h => ?_))))))
 refine Za (GL.nil (GC.seq (Zo (Zm (Zi (.bool (decide (((c7.toNat : Int) : Int) ≥ 128))) (GL.nil (Yd h (fun u10 h => ?_) fun u10 h => ?_)))))))
 refine Zo ?_
 obtain ⟨x11, hl13, v12, h⟩ := h
 refine Zv (OV.loadT (p := (b1, 0)) (cs := x11) rfl rfl (by rw [hl13]; rfl) v12) ?_
 obtain ⟨hl15, h116, h⟩ := h
 refine GL.storeT (p := (b1, 0)) (vs := x11) h trivial rfl rfl h116 (by rw [hl15]; rfl) ?_
 intro H14 h
 refine Za (GL.nil ?_)
 obtain ⟨x17, hl19, v18, h⟩ := h
 exact GC.ret (fun _ _ hf hs => Qb8 rfl (RV.cellT (p := (b1, 0)) (cs := x17) rfl rfl (by rw [hl19]; rfl) v18) (RV.tmp rfl) hf hs ⟨x17, false, rfl, h⟩)
 refine GC.skip (GC.region (Zm ?_))
 obtain ⟨ha20, hb21, h⟩ := h
 refine Zv (OV.indexAddrA (p := (b1, 0)) rfl rfl rfl rfl ha20 hb21) (GL.store (p := ((b1, 0).1, (b1, 0).2 + ((c7.toNat : Int) : Int).toNat * 1)) (v := .bool true) h trivial rfl rfl rfl rfl ?_)
 intro H22 h
 refine GL.nil_to (fun _ _ h => h) (GC.region (Zm (Zi (.int .i64 (w .i64 (x3 + 1))) (Za ?_))))
 exact Yj I3 (w .i64 (x3 + 1)) h
 refine GC.exit_to (fun _ _ h => h) (Zo ?_)
 obtain ⟨x23, hl25, v24, h⟩ := h
 refine Zv (OV.loadT (p := (b1, 0)) (cs := x23) rfl rfl (by rw [hl25]; rfl) v24) ?_
 obtain ⟨hl27, h128, h⟩ := h
 refine GL.storeT (p := (b1, 0)) (vs := x23) h trivial rfl rfl h128 (by rw [hl27]; rfl) ?_
 intro H26 h
 refine Za (GL.nil ?_)
 obtain ⟨x29, hl31, v30, h⟩ := h
 exact GC.ret (fun _ _ hf hs => Qb8 rfl (RV.cellT (p := (b1, 0)) (cs := x29) rfl rfl (by rw [hl31]; rfl) v30) (RV.tmp rfl) hf hs ⟨x29, true, rfl, h⟩)
def Qbp (C : Ctx) (p_s : Str) (p_as : Option (Nat × Nat)) (K : Str → Heap → Prop) (H : Heap) : Prop :=
 jn (α := Str) (fun x2 H3 =>
 K x2 H3)
 (fun J1 => lp (α := Str) p_s H (fun x5 J6 H7 =>
 ift (decide (((List.length x5 : Int) : Int) > 0))
 (ixs x5 0 fun c9 =>
 QV C p_as (c9.toNat : Int) (fun r12 H13 =>
 ift (!r12)
 (J1 x5 H13)
 (slS x5 1 (List.length x5 : Int) fun t15 =>
 J6 t15 H13)) H7)
 (J1 x5 H7)))
theorem Qcx (C p_s p_as K H) (h : Qbp C p_s p_as K H) : QaL C p_s p_as K H := by
 refine Ye Tryz.func94 rfl Tryz.ntmps94 [(0, sv p_s), (1, pv p_as)] (Zo (Za (GL.nil ?_)))
 obtain ⟨J1, h, hR4⟩ := h
 refine GC.join (α := Str) J1 (fun x2 => [(0, sv x2)]) ?_ ?_
 refine GC.block (Yp h (fun x5 => [(0, sv x5), (1, pv p_as)]) ?_)
 intro x5 H7 J6 h
 refine GC.seq (Zo (Zm (Zr (Zi (.bool (decide (((List.length x5 : Int) : Int) > 0))) (GL.nil (Yd h (fun u8 h => ?_) fun u8 h => ?_))))))
 refine GC.skip (GC.block (GC.seq (Zo (Zm (Zm (Ys h fun c9 h => ?_))))))
 refine Zc h QaZ ?_
 rintro _ H13 ⟨r12, rfl, h⟩
 refine Zv (OV.not rfl) (GL.nil (Yd h (fun u14 h => ?_) fun u14 h => ?_))
 exact GC.exit_jump (fun _ _ h => h) x5 h ⟨rfl, trivial⟩
 refine GC.skip (GC.region (Zm ?_))
 obtain ⟨h16, h17, h18, t15, h19, h⟩ := h
 refine Zv (OV.sliceStr (s := x5) h16 h17 h18 h19 rfl rfl rfl rfl rfl rfl) (Za ?_)
 exact Yj I3 t15 h
 exact GC.exit_jump (fun _ _ h => h) x5 h ⟨rfl, trivial⟩
 intro x2 H3 h
 replace h := hR4 x2 H3 h
 refine Zo (Zm (Za (GL.nil ?_)))
 exact Y1 I3 ⟨x2, rfl, h⟩
def Qbg (C : Ctx) (p_s : Str) (p_as : Option (Nat × Nat)) (K : Str → Heap → Prop) (H : Heap) : Prop :=
 jn (α := Str) (fun x2 H3 =>
 K x2 H3)
 (fun J1 => lp (α := Str) p_s H (fun x5 J6 H7 =>
 ift (decide (((List.length x5 : Int) : Int) > 0))
 (ixs x5 (w .i64 ((List.length x5 : Int) - 1)) fun c9 =>
 QV C p_as (c9.toNat : Int) (fun r12 H13 =>
 ift (!r12)
 (J1 x5 H13)
 (slS x5 0 (w .i64 ((List.length x5 : Int) - 1)) fun t15 =>
 J6 t15 H13)) H7)
 (J1 x5 H7)))
theorem Qcr (C p_s p_as K H) (h : Qbg C p_s p_as K H) : QaI C p_s p_as K H := by
 refine Ye Tryz.func95 rfl Tryz.ntmps95 [(0, sv p_s), (1, pv p_as)] (Zo (Za (GL.nil ?_)))
 obtain ⟨J1, h, hR4⟩ := h
 refine GC.join (α := Str) J1 (fun x2 => [(0, sv x2)]) ?_ ?_
 refine GC.block (Yp h (fun x5 => [(0, sv x5), (1, pv p_as)]) ?_)
 intro x5 H7 J6 h
 refine GC.seq (Zo (Zm (Zr (Zi (.bool (decide (((List.length x5 : Int) : Int) > 0))) (GL.nil (Yd h (fun u8 h => ?_) fun u8 h => ?_))))))
 refine GC.skip (GC.block (GC.seq (Zo (Zm (Zm (Zm (Zr (Zi (.int .i64 (w .i64 ((List.length x5 : Int) - 1))) (Ys h fun c9 h => ?_)))))))))
 refine Zc h QaZ ?_
 rintro _ H13 ⟨r12, rfl, h⟩
 refine Zv (OV.not rfl) (GL.nil (Yd h (fun u14 h => ?_) fun u14 h => ?_))
 exact GC.exit_jump (fun _ _ h => h) x5 h ⟨rfl, trivial⟩
 refine GC.skip (GC.region (Zm (Zm (Zr (Zi (.int .i64 (w .i64 ((List.length x5 : Int) - 1))) ?_)))))
 obtain ⟨h16, h17, h18, t15, h19, h⟩ := h
 refine Zv (OV.sliceStr (s := x5) h16 h17 h18 h19 rfl rfl rfl rfl rfl rfl) (Za ?_)
 exact Yj I3 t15 h
 exact GC.exit_jump (fun _ _ h => h) x5 h ⟨rfl, trivial⟩
 intro x2 H3 h
 replace h := hR4 x2 H3 h
 refine Zo (Zm (Za (GL.nil ?_)))
 exact Y1 I3 ⟨x2, rfl, h⟩
def QaR (C : Ctx) (p_s : Str) (p_substr : Str) (K : Int → Heap → Prop) (H : Heap) : Prop :=
 ift ((((List.length p_substr : Int) : Int) == 0) || (p_substr == p_s))
 (K 0 H)
 (ift (((List.length p_substr : Int) : Int) == 1)
 (ixs p_substr 0 fun c4 =>
 Q2 C p_s (c4.toNat : Int) (fun r7 H8 =>
 K r7 H8) H)
 (ift (decide (((List.length p_substr : Int) : Int) ≥ (List.length p_s : Int)))
 (K (-1) H)
 (ldI H .i64 (0, 0) fun x10 =>
 ift ((decide (((List.length p_substr : Int) : Int) ≤ x10)) && (decide (((List.length p_s : Int) : Int) ≤ 64)))
 (False)
 (ixs p_substr 0 fun c14 =>
 ixs p_substr 1 fun c17 =>
 lp (α := Int × Int) (0, 0) H (fun x20 J21 H22 =>
 ift (decide ((x20.1 : Int) < (w .i64 ((w .i64 ((List.length p_s : Int) - (List.length p_substr : Int))) + 1))))
 (jn (α := Int) (fun x25 H26 =>
 ixs p_s (w .i64 (x25 + 1)) fun c41 =>
 jn (α := Bool) (fun b44 H54 =>
 ift b44
 (K x25 H54)
 (ldI H54 .i64 (0, 0) fun x56 =>
 jn (α := Bool) (fun b58 H64 =>
 ift b58
 (False)
 (ldI H64 .i64 (0, 0) fun x72 =>
 ift (((decide (((List.length p_substr : Int) : Int) > x72)) && (decide (((w .i64 (x20.2 + 1)) : Int) ≥ (w .i64 (4 + (sShr .i64 (w .i64 (x25 + 1)) 4)))))) && (decide (((w .i64 (x25 + 1)) : Int) < (w .i64 ((w .i64 ((List.length p_s : Int) - (List.length p_substr : Int))) + 1)))))
 (slS p_s (w .i64 (x25 + 1)) (List.length p_s : Int) fun t77 =>
 Qa1 C t77 p_substr (fun r83 H84 =>
 ift (decide ((r83 : Int) < 0))
 (K (-1) H84)
 (K (w .i64 ((w .i64 (x25 + 1)) + r83)) H84)) H64)
 (J21 ((w .i64 (x25 + 1)), (w .i64 (x20.2 + 1))) H64)))
 (fun J59 => ift (decide (((List.length p_substr : Int) : Int) ≤ x56))
 (Qcd C (w .i64 (x25 + 1)) (fun r62 H63 =>
 J59 (decide (((w .i64 (x20.2 + 1)) : Int) > r62)) H63) H54)
 (J59 false H54))))
 (fun J45 => ift (((c41.toNat : Int) : Int) == (c17.toNat : Int))
 (slS p_s x25 (w .i64 (x25 + (List.length p_substr : Int))) fun t48 =>
 J45 (t48 == p_substr) H26)
 (J45 false H26)))
 (fun J24 => ixs p_s x20.1 fun c28 =>
 ift (((c28.toNat : Int) : Int) != (c14.toNat : Int))
 (slS p_s (w .i64 (x20.1 + 1)) (w .i64 ((w .i64 ((List.length p_s : Int) - (List.length p_substr : Int))) + 1)) fun t32 =>
 Q2 C t32 (c14.toNat : Int) (fun r38 H39 =>
 ift (decide ((r38 : Int) < 0))
 (K (-1) H39)
 (J24 (w .i64 (x20.1 + (w .i64 (r38 + 1)))) H39)) H22)
 (J24 x20.1 H22)))
 (K (-1) H22))))))
theorem QbN (C p_s p_substr K H) (h : QaR C p_s p_substr K H) : Qag C p_s p_substr K H := by
 refine Ye Tryz.func98 rfl Tryz.ntmps98 [(0, sv p_s), (1, sv p_substr)] (Zo (Za (GL.nil (Zo (Zm (Zr (Za (GL.nil (GC.seq (GC.block (Zo (Zm (Zi (.bool (((List.length p_substr : Int) : Int) == 0)) (Zm (GL.cut0 4 [(23, .bool ((((List.length p_substr : Int) : Int) == 0) || (p_substr == p_s))), (0, sv p_s), (1, sv p_substr), (5, .int .i64 (List.length p_substr : Int))] ?_ ?_)))))))))))))))
 rcases Zb (((List.length p_substr : Int) : Int) == 0) with hc1 | hc1
 refine Zk hc1 (Zk hc1 (Zk hc1 (Zt hc1 ?_)))
 exact GL.jump0 (fun _ _ h => h) () rfl ⟨(by rw [hc1]; rfl), rfl, rfl, rfl, trivial⟩
 refine Zu hc1 Ym (Zu hc1 Ym (Zu hc1 (OV.sbin (a := p_substr) (b := p_s) (v := .bool (p_substr == p_s)) rfl rfl rfl) (Zn hc1 ?_)))
 exact GL.jump0 (fun _ _ h => h) () rfl ⟨(by rw [hc1]; rfl), rfl, rfl, rfl, trivial⟩
 refine Za (GL.nil (Yd h (fun hc2 h => ?_) fun hc2 h => ?_))
 refine Zo (Za (GL.nil ?_))
 exact Y1 I3 ⟨0, rfl, h⟩
 refine Zo (Zm (Zi (.bool (((List.length p_substr : Int) : Int) == 1)) (Za (GL.nil (Yd h (fun hc3 h => ?_) fun hc3 h => ?_)))))
 refine Zo (Zm (Zm (Ys h fun c4 h => ?_)))
 refine Zc h QaA ?_
 rintro _ H8 ⟨r7, rfl, h⟩
 refine Za (GL.nil ?_)
 exact Y1 I3 ⟨r7, rfl, h⟩
 refine Zo (Zm (Zm (Zr (Zi (.bool (decide (((List.length p_substr : Int) : Int) ≥ (List.length p_s : Int)))) (Za (GL.nil (Yd h (fun hc9 h => ?_) fun hc9 h => ?_)))))))
 refine Zo (Za (GL.nil ?_))
 exact Y1 I3 ⟨(-1), rfl, h⟩
 refine Zo (Zm (Yl h fun x10 h => ?_))
 refine Zi (.bool (decide (((List.length p_substr : Int) : Int) ≤ x10))) (Zm (GL.cut0 4 [(44, .bool ((decide (((List.length p_substr : Int) : Int) ≤ x10)) && (decide (((List.length p_s : Int) : Int) ≤ 64)))), (0, sv p_s), (1, sv p_substr), (5, .int .i64 (List.length p_substr : Int))] ?_ ?_))
 rcases Zb (decide (((List.length p_substr : Int) : Int) ≤ x10)) with hc12 | hc12
 refine Zu hc12 Ym (Zu hc12 (OV.lenStr rfl rfl) (Zu hc12 (OV.ibin (v := .bool (decide (((List.length p_s : Int) : Int) ≤ 64))) rfl rfl rfl) (Zt hc12 ?_)))
 exact GL.jump0 (fun _ _ h => h) () rfl ⟨(by rw [hc12]; rfl), rfl, rfl, rfl, trivial⟩
 refine Zk hc12 (Zk hc12 (Zk hc12 (Zn hc12 ?_)))
 exact GL.jump0 (fun _ _ h => h) () rfl ⟨(by rw [hc12]; rfl), rfl, rfl, rfl, trivial⟩
 refine Za (GL.nil (Yd h (fun hc13 h => ?_) fun hc13 h => ?_))
 refine GC.seq ?_
 exact GC.never h
 refine GC.skip_to (fun _ _ h => h) (Zo (Zm ?_))
 refine Ys h fun c14 h => ?_
 refine Za (GL.nil (Zo (Zm (Ys h fun c17 h => ?_))))
 refine Za (GL.nil (Zo (Za (GL.nil (Zo (Zm (Zr (Zm (Zi (.int .i64 (w .i64 ((List.length p_s : Int) - (List.length p_substr : Int)))) (Zi (.int .i64 (w .i64 ((w .i64 ((List.length p_s : Int) - (List.length p_substr : Int))) + 1))) (Za (GL.nil (Zo (Za (GL.nil (GC.seq (GC.block (Yp h (fun x20 => [(8, .int .i64 x20.1), (10, .int .i64 x20.2), (0, sv p_s), (1, sv p_substr), (5, .int .i64 (List.length p_substr : Int)), (6, .int .u8 (c14.toNat : Int)), (7, .int .u8 (c17.toNat : Int)), (9, .int .i64 (w .i64 ((w .i64 ((List.length p_s : Int) - (List.length p_substr : Int))) + 1)))]) ?_))))))))))))))))))
 intro x20 H22 J21 h
 refine GC.seq (Zo (Zm (Zm (Zi (.bool (decide ((x20.1 : Int) < (w .i64 ((w .i64 ((List.length p_s : Int) - (List.length p_substr : Int))) + 1))))) (GL.nil (Yd h (fun hc23 h => ?_) fun hc23 h => ?_))))))
 refine GC.skip (GC.block ?_)
 obtain ⟨J24, h, hR27⟩ := h
 refine GC.join (α := Int) J24 (fun x25 => [(8, .int .i64 x25), (0, sv p_s), (1, sv p_substr), (5, .int .i64 (List.length p_substr : Int)), (6, .int .u8 (c14.toNat : Int)), (7, .int .u8 (c17.toNat : Int)), (9, .int .i64 (w .i64 ((w .i64 ((List.length p_s : Int) - (List.length p_substr : Int))) + 1))), (10, .int .i64 x20.2)]) ?_ ?_
 refine Zo (Zm (Zm (Ys h fun c28 h => ?_)))
 refine Zm (Zi (.bool (((c28.toNat : Int) : Int) != (c14.toNat : Int))) (GL.nil (Yd h (fun hc31 h => ?_) fun hc31 h => ?_)))
 refine Zo (Zm (Zm (Zi (.int .i64 (w .i64 (x20.1 + 1))) (Zm ?_))))
 obtain ⟨h33, h34, h35, t32, h36, h⟩ := h
 refine Zv (OV.sliceStr (s := p_s) h33 h34 h35 h36 rfl rfl rfl rfl rfl rfl) (Zm (Zc h QaA ?_))
 rintro _ H39 ⟨r38, rfl, h⟩
 refine Za (GL.nil (GC.seq (Zo (Zm (Zi (.bool (decide ((r38 : Int) < 0))) (GL.nil (Yd h (fun hc40 h => ?_) fun hc40 h => ?_)))))))
 refine Zo (Za (GL.nil ?_))
 exact Y1 I3 ⟨(-1), rfl, h⟩
 refine GC.skip (GC.region (Zm (Zm (Zi (.int .i64 (w .i64 (r38 + 1))) (Zi (.int .i64 (w .i64 (x20.1 + (w .i64 (r38 + 1))))) (Za ?_))))))
 exact Yj I3 (w .i64 (x20.1 + (w .i64 (r38 + 1)))) h
 exact Yk I3 x20.1 h
 intro x25 H26 h
 replace h := hR27 x25 H26 h
 refine GC.seq (Zo (Zm (Zm (Zi (.int .i64 (w .i64 (x25 + 1))) (Ys h fun c41 h => ?_)))))
 refine Zm (Zi (.bool (((c41.toNat : Int) : Int) == (c17.toNat : Int))) (Zm ?_))
 obtain ⟨J45, h, hR46⟩ := h
 refine GL.cut (α := Bool) 9 J45 (fun b44 => [(93, .bool b44), (0, sv p_s), (1, sv p_substr), (5, .int .i64 (List.length p_substr : Int)), (6, .int .u8 (c14.toNat : Int)), (7, .int .u8 (c17.toNat : Int)), (8, .int .i64 x25), (9, .int .i64 (w .i64 ((w .i64 ((List.length p_s : Int) - (List.length p_substr : Int))) + 1))), (10, .int .i64 x20.2)]) ?_ ?_
 rcases h.em with ⟨hc47, h⟩ | ⟨hc47, h⟩
 refine Zu hc47 Ym (Zu hc47 Ym (Zu hc47 Ym (Zu hc47 Ym (Zu hc47 (OV.ibin (v := .int .i64 (w .i64 (x25 + (List.length p_substr : Int)))) rfl rfl rfl) ?_))))
 obtain ⟨h49, h50, h51, t48, h52, h⟩ := h
 refine Zu hc47 (OV.sliceStr (s := p_s) h49 h50 h51 h52 rfl rfl rfl rfl rfl rfl) (Zu hc47 Ym (Zu hc47 (OV.sbin (a := t48) (b := p_substr) (v := .bool (t48 == p_substr)) rfl rfl rfl) (Zt hc47 ?_)))
 exact Yj I3 (t48 == p_substr) h
 refine Zk hc47 (Zk hc47 (Zk hc47 (Zk hc47 (Zk hc47 (Zk hc47 (Zk hc47 (Zk hc47 (Zn hc47 ?_))))))))
 exact Yj I3 false h
 intro b44 H54 h
 replace h := hR46 b44 H54 h
 refine GL.nil (Yd h (fun hc55 h => ?_) fun hc55 h => ?_)
 refine Zo (Zm (Za (GL.nil ?_)))
 exact Y1 I3 ⟨x25, rfl, h⟩
 refine GC.skip (Zo (Zm (Zi (.int .i64 (w .i64 (x25 + 1))) (Za (GL.nil (Zo (Zm (Zi (.int .i64 (w .i64 (x20.2 + 1))) (Za (GL.nil (Zo (Zm (Yl h fun x56 h => ?_)))))))))))))
 refine Zi (.bool (decide (((List.length p_substr : Int) : Int) ≤ x56))) (Zm ?_)
 obtain ⟨J59, h, hR60⟩ := h
 refine GL.cut (α := Bool) 5 J59 (fun b58 => [(107, .bool b58), (0, sv p_s), (1, sv p_substr), (5, .int .i64 (List.length p_substr : Int)), (6, .int .u8 (c14.toNat : Int)), (7, .int .u8 (c17.toNat : Int)), (8, .int .i64 (w .i64 (x25 + 1))), (9, .int .i64 (w .i64 ((w .i64 ((List.length p_s : Int) - (List.length p_substr : Int))) + 1))), (10, .int .i64 (w .i64 (x20.2 + 1)))]) ?_ ?_
 rcases h.em with ⟨hc61, h⟩ | ⟨hc61, h⟩
 refine Zu hc61 Ym (Zu hc61 Ym (GL.call h (Yt hc61) rfl Qb3 (vs := [.int .i64 (w .i64 (x25 + 1))]) rfl ?_))
 rintro _ H63 ⟨r62, rfl, h⟩
 refine Zu hc61 (OV.ibin (v := .bool (decide (((w .i64 (x20.2 + 1)) : Int) > r62))) rfl rfl rfl) (Zt hc61 ?_)
 exact Yj I3 (decide (((w .i64 (x20.2 + 1)) : Int) > r62)) h
 refine Zk hc61 (Zk hc61 (Zk hc61 (Zk hc61 (Zn hc61 ?_))))
 exact Yj I3 false h
 intro b58 H64 h
 replace h := hR60 b58 H64 h
 refine GL.nil (Yd h (fun hc65 h => ?_) fun hc65 h => ?_)
 refine GC.seq ?_
 exact GC.never h
 refine Zo (Zm (Yl h fun x72 h => ?_))
 refine Zi (.bool (decide (((List.length p_substr : Int) : Int) > x72))) (Zm (GL.cut0 6 [(127, .bool ((decide (((List.length p_substr : Int) : Int) > x72)) && (decide (((w .i64 (x20.2 + 1)) : Int) ≥ (w .i64 (4 + (sShr .i64 (w .i64 (x25 + 1)) 4))))))), (0, sv p_s), (1, sv p_substr), (5, .int .i64 (List.length p_substr : Int)), (6, .int .u8 (c14.toNat : Int)), (7, .int .u8 (c17.toNat : Int)), (8, .int .i64 (w .i64 (x25 + 1))), (9, .int .i64 (w .i64 ((w .i64 ((List.length p_s : Int) - (List.length p_substr : Int))) + 1))), (10, .int .i64 (w .i64 (x20.2 + 1)))] ?_ ?_))
 rcases Zb (decide (((List.length p_substr : Int) : Int) > x72)) with hc74 | hc74
 refine Zu hc74 Ym (Zu hc74 Ym (Zu hc74 (OV.shr rfl rfl (by decide)) (Zu hc74 (OV.ibin (v := .int .i64 (w .i64 (4 + (sShr .i64 (w .i64 (x25 + 1)) 4)))) rfl rfl rfl) (Zu hc74 (OV.ibin (v := .bool (decide (((w .i64 (x20.2 + 1)) : Int) ≥ (w .i64 (4 + (sShr .i64 (w .i64 (x25 + 1)) 4)))))) rfl rfl rfl) (Zt hc74 ?_)))))
 exact GL.jump0 (fun _ _ h => h) () rfl ⟨(by rw [hc74]; rfl), rfl, rfl, rfl, rfl, rfl, rfl, rfl, rfl, trivial⟩
 refine Zk hc74 (Zk hc74 (Zk hc74 (Zk hc74 (Zk hc74 (Zn hc74 ?_)))))
 exact GL.jump0 (fun _ _ h => h) () rfl ⟨(by rw [hc74]; rfl), rfl, rfl, rfl, rfl, rfl, rfl, rfl, rfl, trivial⟩
 refine Zm (GL.cut0 4 [(132, .bool (((decide (((List.length p_substr : Int) : Int) > x72)) && (decide (((w .i64 (x20.2 + 1)) : Int) ≥ (w .i64 (4 + (sShr .i64 (w .i64 (x25 + 1)) 4)))))) && (decide (((w .i64 (x25 + 1)) : Int) < (w .i64 ((w .i64 ((List.length p_s : Int) - (List.length p_substr : Int))) + 1)))))), (0, sv p_s), (1, sv p_substr), (5, .int .i64 (List.length p_substr : Int)), (6, .int .u8 (c14.toNat : Int)), (7, .int .u8 (c17.toNat : Int)), (8, .int .i64 (w .i64 (x25 + 1))), (9, .int .i64 (w .i64 ((w .i64 ((List.length p_s : Int) - (List.length p_substr : Int))) + 1))), (10, .int .i64 (w .i64 (x20.2 + 1)))] ?_ ?_)
 rcases Zb ((decide (((List.length p_substr : Int) : Int) > x72)) && (decide (((w .i64 (x20.2 + 1)) : Int) ≥ (w .i64 (4 + (sShr .i64 (w .i64 (x25 + 1)) 4)))))) with hc75 | hc75
 refine Zu hc75 Ym (Zu hc75 Ym (Zu hc75 (OV.ibin (v := .bool (decide (((w .i64 (x25 + 1)) : Int) < (w .i64 ((w .i64 ((List.length p_s : Int) - (List.length p_substr : Int))) + 1))))) rfl rfl rfl) (Zt hc75 ?_)))
 exact GL.jump0 (fun _ _ h => h) () rfl ⟨(by rw [hc75]; rfl), rfl, rfl, rfl, rfl, rfl, rfl, rfl, rfl, trivial⟩
 refine Zk hc75 (Zk hc75 (Zk hc75 (Zn hc75 ?_)))
 exact GL.jump0 (fun _ _ h => h) () rfl ⟨(by rw [hc75]; rfl), rfl, rfl, rfl, rfl, rfl, rfl, rfl, rfl, trivial⟩
 refine GL.nil (Yd h (fun hc76 h => ?_) fun hc76 h => ?_)
 refine Zo (Zm (Zm ?_))
 obtain ⟨h78, h79, h80, t77, h81, h⟩ := h
 refine Zv (OV.sliceStr (s := p_s) h78 h79 h80 h81 rfl rfl rfl rfl rfl rfl) (Zm (Zc h QaV ?_))
 rintro _ H84 ⟨r83, rfl, h⟩
 refine Za (GL.nil (GC.seq (Zo (Zm (Zi (.bool (decide ((r83 : Int) < 0))) (GL.nil (Yd h (fun hc85 h => ?_) fun hc85 h => ?_)))))))
 refine Zo (Za (GL.nil ?_))
 exact Y1 I3 ⟨(-1), rfl, h⟩
 refine GC.skip (Zo (Zm (Zm (Zi (.int .i64 (w .i64 ((w .i64 (x25 + 1)) + r83))) (Za (GL.nil ?_))))))
 exact Y1 I3 ⟨(w .i64 ((w .i64 (x25 + 1)) + r83)), rfl, h⟩
 exact Yk I3 ((w .i64 (x25 + 1)), (w .i64 (x20.2 + 1))) h
 refine GC.exit_to (fun _ _ h => h) (Zo (Za (GL.nil ?_)))
 exact Y1 I3 ⟨(-1), rfl, h⟩
def QaD (C : Ctx) (p_data : Sl) (p_a : Int) (p_m : Int) (p_b : Int) (p_cmp : Value) (K : Heap → Prop) (H : Heap) : Prop :=
 lp (α := Int × Int) ((w .i64 (p_m - p_a)), (w .i64 (p_b - p_m))) H (fun x1 J2 H3 =>
 ift ((x1.1 : Int) != x1.2)
 (ift (decide ((x1.1 : Int) > x1.2))
 (Qm C p_data (w .i64 (p_m - x1.1)) p_m x1.2 p_cmp (fun H6 =>
 J2 ((w .i64 (x1.1 - x1.2)), x1.2) H6) H3)
 (Qm C p_data (w .i64 (p_m - x1.1)) (w .i64 ((w .i64 (p_m + x1.2)) - x1.1)) x1.1 p_cmp (fun H7 =>
 J2 (x1.1, (w .i64 (x1.2 - x1.1))) H7) H3))
 (Qm C p_data (w .i64 (p_m - x1.1)) p_m x1.1 p_cmp (fun H8 =>
 K H8) H3))
theorem Qbx (C p_data p_a p_m p_b p_cmp K H) (h : QaD C p_data p_a p_m p_b p_cmp K H) : Q3 C p_data p_a p_m p_b p_cmp K H := by
 refine Ye Tryz.func99 rfl Tryz.ntmps99 [(0, slv p_data), (1, .int .i64 p_a), (2, .int .i64 p_m), (3, .int .i64 p_b), (4, p_cmp)] (Zo (Zm (Zm (Zi (.int .i64 (w .i64 (p_m - p_a))) (Za (GL.nil (Zo (Zm (Zm (Zi (.int .i64 (w .i64 (p_b - p_m))) (Za (GL.nil (GC.seq (GC.block (Yp h (fun x1 => [(10, .int .i64 x1.1), (11, .int .i64 x1.2), (0, slv p_data), (2, .int .i64 p_m), (4, p_cmp)]) ?_)))))))))))))))
 intro x1 H3 J2 h
 refine GC.seq (Zo (Zm (Zm (Zi (.bool ((x1.1 : Int) != x1.2)) (GL.nil (Yd h (fun u4 h => ?_) fun u4 h => ?_))))))
 refine GC.skip (GC.block (Zo (Zm (Zm (Zi (.bool (decide ((x1.1 : Int) > x1.2))) (GL.nil (Yd h (fun u5 h => ?_) fun u5 h => ?_)))))))
 refine Zo (Zm (Zm (Zm (Zi (.int .i64 (w .i64 (p_m - x1.1))) (Zm (Zm (Zm (Zc h QL ?_))))))))
 rintro _ H6 ⟨rfl, h⟩
 refine GL.nil (GC.region (Zm (Zm (Zi (.int .i64 (w .i64 (x1.1 - x1.2))) (Za ?_)))))
 exact Yj I3 ((w .i64 (x1.1 - x1.2)), x1.2) h
 refine Zo (Zm (Zm (Zm (Zi (.int .i64 (w .i64 (p_m - x1.1))) (Zm (Zm (Zi (.int .i64 (w .i64 (p_m + x1.2))) (Zm (Zi (.int .i64 (w .i64 ((w .i64 (p_m + x1.2)) - x1.1))) (Zm (Zm (Zc h QL ?_))))))))))))
 rintro _ H7 ⟨rfl, h⟩
 refine GL.nil (GC.region (Zm (Zm (Zi (.int .i64 (w .i64 (x1.2 - x1.1))) (Za ?_)))))
 exact Yj I3 (x1.1, (w .i64 (x1.2 - x1.1))) h
 refine GC.exit_to (fun _ _ h => h) (GC.region (Zm (Zm (Zm (Zi (.int .i64 (w .i64 (p_m - x1.1))) (Zm (Zm (Zm (Zc h QL ?_)))))))))
 rintro _ H8 ⟨rfl, h⟩
 exact GL.ends (fun _ _ hf hs => QO rfl hf hs ⟨rfl, h⟩)
def Qas (C : Ctx) (p_data : Sl) (p_a : Int) (p_m : Int) (p_b : Int) (p_cmp : Value) (K : Heap → Prop) (H : Heap) : Prop :=
 lp (α := Int × Int) ((w .i64 (p_m - p_a)), (w .i64 (p_b - p_m))) H (fun x1 J2 H3 =>
 ift ((x1.1 : Int) != x1.2)
 (ift (decide ((x1.1 : Int) > x1.2))
 (Ql C p_data (w .i64 (p_m - x1.1)) p_m x1.2 p_cmp (fun H6 =>
 J2 ((w .i64 (x1.1 - x1.2)), x1.2) H6) H3)
 (Ql C p_data (w .i64 (p_m - x1.1)) (w .i64 ((w .i64 (p_m + x1.2)) - x1.1)) x1.1 p_cmp (fun H7 =>
 J2 (x1.1, (w .i64 (x1.2 - x1.1))) H7) H3))
 (Ql C p_data (w .i64 (p_m - x1.1)) p_m x1.1 p_cmp (fun H8 =>
 K H8) H3))
theorem Qbr (C p_data p_a p_m p_b p_cmp K H) (h : Qas C p_data p_a p_m p_b p_cmp K H) : QT C p_data p_a p_m p_b p_cmp K H := by
 refine Ye Tryz.func100 rfl Tryz.ntmps100 [(0, slv p_data), (1, .int .i64 p_a), (2, .int .i64 p_m), (3, .int .i64 p_b), (4, p_cmp)] (Zo (Zm (Zm (Zi (.int .i64 (w .i64 (p_m - p_a))) (Za (GL.nil (Zo (Zm (Zm (Zi (.int .i64 (w .i64 (p_b - p_m))) (Za (GL.nil (GC.seq (GC.block (Yp h (fun x1 => [(10, .int .i64 x1.1), (11, .int .i64 x1.2), (0, slv p_data), (2, .int .i64 p_m), (4, p_cmp)]) ?_)))))))))))))))
 intro x1 H3 J2 h
 refine GC.seq (Zo (Zm (Zm (Zi (.bool ((x1.1 : Int) != x1.2)) (GL.nil (Yd h (fun u4 h => ?_) fun u4 h => ?_))))))
 refine GC.skip (GC.block (Zo (Zm (Zm (Zi (.bool (decide ((x1.1 : Int) > x1.2))) (GL.nil (Yd h (fun u5 h => ?_) fun u5 h => ?_)))))))
 refine Zo (Zm (Zm (Zm (Zi (.int .i64 (w .i64 (p_m - x1.1))) (Zm (Zm (Zm (Zc h QK ?_))))))))
 rintro _ H6 ⟨rfl, h⟩
 refine GL.nil (GC.region (Zm (Zm (Zi (.int .i64 (w .i64 (x1.1 - x1.2))) (Za ?_)))))
 exact Yj I3 ((w .i64 (x1.1 - x1.2)), x1.2) h
 refine Zo (Zm (Zm (Zm (Zi (.int .i64 (w .i64 (p_m - x1.1))) (Zm (Zm (Zi (.int .i64 (w .i64 (p_m + x1.2))) (Zm (Zi (.int .i64 (w .i64 ((w .i64 (p_m + x1.2)) - x1.1))) (Zm (Zm (Zc h QK ?_))))))))))))
 rintro _ H7 ⟨rfl, h⟩
 refine GL.nil (GC.region (Zm (Zm (Zi (.int .i64 (w .i64 (x1.2 - x1.1))) (Za ?_)))))
 exact Yj I3 (x1.1, (w .i64 (x1.2 - x1.1))) h
 refine GC.exit_to (fun _ _ h => h) (GC.region (Zm (Zm (Zm (Zi (.int .i64 (w .i64 (p_m - x1.1))) (Zm (Zm (Zm (Zc h QK ?_)))))))))
 rintro _ H8 ⟨rfl, h⟩
 exact GL.ends (fun _ _ hf hs => QO rfl hf hs ⟨rfl, h⟩)
end
section
set_option maxRecDepth 100000
open Go Go.Proofs
def QaB (C : Ctx) (p_s : Str) (p_prefix : Str) (K : Bool → Heap → Prop) (H : Heap) : Prop :=
 jn (α := Bool) (fun b1 H11 =>
 K b1 H11)
 (fun J2 => ift (decide (((List.length p_s : Int) : Int) ≥ (List.length p_prefix : Int)))
 (slS p_s 0 (List.length p_prefix : Int) fun t5 =>
 J2 (t5 == p_prefix) H)
 (J2 false H))
theorem Qbv (C p_s p_prefix K H) (h : QaB C p_s p_prefix K H) : QF C p_s p_prefix K H := by
 refine Ye Tryz.func106 rfl Tryz.ntmps106 [(0, sv p_s), (1, sv p_prefix)] (Zo (Za (GL.nil (Zo (Zm (Zr (Zm (Zr (Zi (.bool (decide (((List.length p_s : Int) : Int) ≥ (List.length p_prefix : Int)))) (Zm ?_))))))))))
 obtain ⟨J2, h, hR3⟩ := h
 refine GL.cut (α := Bool) 7 J2 (fun b1 => [(17, .bool b1)]) ?_ ?_
 rcases h.em with ⟨u4, h⟩ | ⟨u4, h⟩
 refine Zu u4 Ym (Zu u4 Ym (Zu u4 (OV.lenStr rfl rfl) ?_))
 obtain ⟨h6, h7, h8, t5, h9, h⟩ := h
 refine Zu u4 (OV.sliceStr (s := p_s) h6 h7 h8 h9 rfl rfl rfl rfl rfl rfl) (Zu u4 Ym (Zu u4 (OV.sbin (a := t5) (b := p_prefix) (v := .bool (t5 == p_prefix)) rfl rfl rfl) (Zt u4 ?_)))
 exact Yj I3 (t5 == p_prefix) h
 refine Zk u4 (Zk u4 (Zk u4 (Zk u4 (Zk u4 (Zk u4 (Zn u4 ?_))))))
 exact Yj I3 false h
 intro b1 H11 h
 replace h := hR3 b1 H11 h
 refine Za (GL.nil ?_)
 exact Y1 I3 ⟨b1, rfl, h⟩
def QcU (C : Ctx) (p_x : Int) (K : Bool → Heap → Prop) (H : Heap) : Prop :=
 K ((p_x : Int) != p_x) H
theorem QeK (C p_x K H) (h : QcU C p_x K H) : Qbz C p_x K H := by
 refine Ye Tryz.func107 rfl Tryz.ntmps107 [(0, .int .i64 p_x)] (Zo (Za (GL.nil (Zo (Zm (Zm (Zi (.bool ((p_x : Int) != p_x)) (Za (GL.nil ?_)))))))))
 exact Y1 I3 ⟨((p_x : Int) != p_x), rfl, h⟩
def Qa0 (C : Ctx) (p_as : Option (Nat × Nat)) (p_c : Int) (K : Bool → Heap → Prop) (H : Heap) : Prop :=
 nck p_as fun p1 =>
 ixr p1 256 p_c <|
 ldB H (p1.1, p1.2 + (p_c : Int).toNat * 1) fun x5 =>
 K x5 H
theorem QbW (C p_as p_c K H) (h : Qa0 C p_as p_c K H) : QV C p_as p_c K H := by
 refine Ye Tryz.func108 rfl Tryz.ntmps108 [(0, pv p_as), (1, .int .u8 p_c)] (Zo (Za (GL.nil (Zo (Zm (Zm ?_))))))
 obtain ⟨p1, hp2, h⟩ := h
 refine Zv (OV.nilCheck (q := p_as) rfl hp2) ?_
 obtain ⟨ha3, hb4, h⟩ := h
 refine Zv (OV.indexAddrA (p := p1) rfl rfl rfl rfl ha3 hb4) (Yl h fun x5 h => ?_)
 refine Za (GL.nil ?_)
 exact Y1 I3 ⟨x5, rfl, h⟩
def QaC (C : Ctx) (p_s : Str) (p_c : Int) (K : Int → Heap → Prop) (H : Heap) : Prop :=
 K (idxB p_s p_c) H
theorem Qbw (C p_s p_c K H) (h : QaC C p_s p_c K H) : Q2 C p_s p_c K H := by
 refine Ye Tryz.func112 rfl Tryz.ntmps112 [(0, sv p_s), (1, .int .u8 p_c)] (Zo (Za (GL.nil (Zo (Zm (Zm (Zv (OV.ext Qbf (vs := [sv p_s, .int .u8 p_c]) (v := .int .i64 (idxB p_s p_c)) rfl (fun w => Qjk _ _ w)) (Za (GL.nil ?_)))))))))
 exact Y1 I3 ⟨(idxB p_s p_c), rfl, h⟩
def Qaj (C : Ctx) (p_data : Sl) (p_a : Int) (p_b : Int) (p_n : Int) (p_cmp : Value) (K : Heap → Prop) (H : Heap) : Prop :=
 lp (α := Int) 0 H (fun x1 J2 H3 =>
 ift (decide ((x1 : Int) < p_n))
 (jn (α := Unit) (fun x6 H7 =>
 J2 (w .i64 (x1 + 1)) H7)
 (fun J5 => dr H3 fun Hs9 =>
 ixa p_data (w .i64 (p_b + x1)) fun p11 =>
 ixa p_data (w .i64 (p_a + x1)) fun p16 =>
 (ldL H3 (p11.1, p11.2 + (w .i64 (p_b + x1) : Int).toNat * 1) fun x22 =>
 Heap.le Hs9 H3 ∧
 ldL H3 (p16.1, p16.2 + (w .i64 (p_a + x1) : Int).toNat * 1) fun x25 =>
 Heap.le Hs9 H3 ∧
 ixa p_data (w .i64 (p_a + x1)) fun p27 =>
 st (p27.1, p27.2 + (w .i64 (p_a + x1) : Int).toNat * 1) (slv x22) (fun H33 =>
 Heap.le Hs9 H33 ∧
 ixa p_data (w .i64 (p_b + x1)) fun p34 =>
 st (p34.1, p34.2 + (w .i64 (p_b + x1) : Int).toNat * 1) (slv x25) (fun H39 =>
 J5 () H39) H33) H3) ∧
 (ldL H3 (p16.1, p16.2 + (w .i64 (p_a + x1) : Int).toNat * 1) fun x41 =>
 Heap.le Hs9 H3 ∧
 ldL H3 (p11.1, p11.2 + (w .i64 (p_b + x1) : Int).toNat * 1) fun x44 =>
 Heap.le Hs9 H3 ∧
 ixa p_data (w .i64 (p_a + x1)) fun p46 =>
 st (p46.1, p46.2 + (w .i64 (p_a + x1) : Int).toNat * 1) (slv x44) (fun H52 =>
 Heap.le Hs9 H52 ∧
 ixa p_data (w .i64 (p_b + x1)) fun p53 =>
 st (p53.1, p53.2 + (w .i64 (p_b + x1) : Int).toNat * 1) (slv x41) (fun H58 =>
 J5 () H58) H52) H3)))
 (K H3))
theorem Qbd (C p_data p_a p_b p_n p_cmp K H) (h : Qaj C p_data p_a p_b p_n p_cmp K H) : Qm C p_data p_a p_b p_n p_cmp K H := by
 refine Ye Tryz.func116 rfl Tryz.ntmps116 [(0, slv p_data), (1, .int .i64 p_a), (2, .int .i64 p_b), (3, .int .i64 p_n), (4, p_cmp)] (Zo (Za (GL.nil (GC.block (Yp h (fun x1 => [(10, .int .i64 x1), (0, slv p_data), (1, .int .i64 p_a), (2, .int .i64 p_b), (3, .int .i64 p_n)]) ?_)))))
 intro x1 H3 J2 h
 refine GC.seq (Zo (Zm (Zm (Zi (.bool (decide ((x1 : Int) < p_n))) (GL.nil (Yd h (fun u4 h => ?_) fun u4 h => ?_))))))
 refine GC.skip (GC.seq (GC.block ?_))
 obtain ⟨J5, h, hR8⟩ := h
 refine GC.meet (α := Unit) J5 (fun _ => [(0, slv p_data), (1, .int .i64 p_a), (2, .int .i64 p_b), (3, .int .i64 p_n), (10, .int .i64 x1)]) ?_ ?_
 obtain ⟨Hs9, hle10, h⟩ := h
 refine GC.tail (Hs := Hs9) 23 (by kernel_rfl) hle10 (by kernel_rfl) (Zy 0 rfl Ym (Zy 1 rfl Ym (Zy 2 rfl Ym (Zy 3 rfl (OV.ibin (v := .int .i64 (w .i64 (p_a + x1))) rfl rfl rfl) (Zy 4 rfl Ym (Zy 5 rfl Ym (Zy 6 rfl Ym (Zy 7 rfl (OV.ibin (v := .int .i64 (w .i64 (p_b + x1))) rfl rfl rfl) (Zy 8 rfl Ym (Zy 9 rfl Ym (Zy 10 rfl Ym (Zy 11 rfl (OV.ibin (v := .int .i64 (w .i64 (p_b + x1))) rfl rfl rfl) ?_))))))))))))
 obtain ⟨p11, ha12, hb13, u14, hd15, h⟩ := h
 refine Zy 12 rfl (OV.indexAddr rfl rfl rfl rfl ha12 hb13 u14 hd15) (Zy 14 rfl Ym (Zy 15 rfl Ym (Zy 16 rfl Ym (Zy 17 rfl (OV.ibin (v := .int .i64 (w .i64 (p_a + x1))) rfl rfl rfl) ?_))))
 obtain ⟨p16, ha17, hb18, u19, hd20, h⟩ := h
 refine Zy 18 rfl (OV.indexAddr rfl rfl rfl rfl ha17 hb18 u19 hd20) (GT.effs [13, 19] (by kernel_rfl) (by simp) (List.forall_mem_cons.2 ⟨⟨_, rfl, rfl, ?_⟩, List.forall_mem_cons.2 ⟨⟨_, rfl, rfl, ?_⟩, fun _ h => by cases h⟩⟩))
 replace h := h.1
 refine Yl h fun x22 h => ?_
 obtain ⟨hle21, h⟩ := h
 refine GT.back hle21 (GT.eff 19 rfl (by kernel_rfl) rfl (Yl h fun x25 h => ?_))
 obtain ⟨hle24, h⟩ := h
 refine GT.back hle24 ?_
 obtain ⟨p27, ha28, hb29, u30, hd31, h⟩ := h
 refine Zy 20 rfl (OV.indexAddr rfl rfl rfl rfl ha28 hb29 u30 hd31) (GT.eff 21 rfl (by kernel_rfl) rfl (GL.store (p := (p27.1, p27.2 + (w .i64 (p_a + x1) : Int).toNat * 1)) (v := slv x22) h trivial rfl rfl rfl rfl ?_))
 intro H33 h
 obtain ⟨hle32, h⟩ := h
 refine GT.back hle32 ?_
 obtain ⟨p34, ha35, hb36, u37, hd38, h⟩ := h
 refine Zy 22 rfl (OV.indexAddr rfl rfl rfl rfl ha35 hb36 u37 hd38) (GT.done (by kernel_rfl) ?_)
 show GL _ _ _ _ _ [_] _ _
 refine GL.store (p := (p34.1, p34.2 + (w .i64 (p_b + x1) : Int).toNat * 1)) (v := slv x25) h trivial rfl rfl rfl rfl ?_
 intro H39 h
 exact Yj I3 () h
 replace h := h.2
 refine Yl h fun x41 h => ?_
 obtain ⟨hle40, h⟩ := h
 refine GT.back hle40 (GT.eff 13 rfl (by kernel_rfl) rfl (Yl h fun x44 h => ?_))
 obtain ⟨hle43, h⟩ := h
 refine GT.back hle43 ?_
 obtain ⟨p46, ha47, hb48, u49, hd50, h⟩ := h
 refine Zy 20 rfl (OV.indexAddr rfl rfl rfl rfl ha47 hb48 u49 hd50) (GT.eff 21 rfl (by kernel_rfl) rfl (GL.store (p := (p46.1, p46.2 + (w .i64 (p_a + x1) : Int).toNat * 1)) (v := slv x44) h trivial rfl rfl rfl rfl ?_))
 intro H52 h
 obtain ⟨hle51, h⟩ := h
 refine GT.back hle51 ?_
 obtain ⟨p53, ha54, hb55, u56, hd57, h⟩ := h
 refine Zy 22 rfl (OV.indexAddr rfl rfl rfl rfl ha54 hb55 u56 hd57) (GT.done (by kernel_rfl) ?_)
 show GL _ _ _ _ _ [_] _ _
 refine GL.store (p := (p53.1, p53.2 + (w .i64 (p_b + x1) : Int).toNat * 1)) (v := slv x41) h trivial rfl rfl rfl rfl ?_
 intro H58 h
 exact Yj I3 () h
 intro x6 H7 h
 replace h := hR8 x6 H7 h
 refine GL.nil_to (fun _ _ h => h) (GC.region (Zm (Zi (.int .i64 (w .i64 (x1 + 1))) (Za ?_))))
 exact Yj I3 (w .i64 (x1 + 1)) h
 exact GC.exit_ends (fun _ _ hf hs => QO rfl hf hs ⟨rfl, h⟩)
def Qaf (C : Ctx) (p_data : Sl) (p_a : Int) (p_b : Int) (p_n : Int) (p_cmp : Value) (K : Heap → Prop) (H : Heap) : Prop :=
 lp (α := Int) 0 H (fun x1 J2 H3 =>
 ift (decide ((x1 : Int) < p_n))
 (jn (α := Unit) (fun x6 H7 =>
 J2 (w .i64 (x1 + 1)) H7)
 (fun J5 => dr H3 fun Hs9 =>
 ixa p_data (w .i64 (p_b + x1)) fun p11 =>
 ixa p_data (w .i64 (p_a + x1)) fun p16 =>
 (ldT H3 Qa.c (p11.1, p11.2 + (w .i64 (p_b + x1) : Int).toNat * 2) fun x22 =>
 Heap.le Hs9 H3 ∧
 ldT H3 Qa.c (p16.1, p16.2 + (w .i64 (p_a + x1) : Int).toNat * 2) fun x25 =>
 Heap.le Hs9 H3 ∧
 ixa p_data (w .i64 (p_a + x1)) fun p27 =>
 stT (p27.1, p27.2 + (w .i64 (p_a + x1) : Int).toNat * 2) (Qa.c x22) (fun H33 =>
 Heap.le Hs9 H33 ∧
 ixa p_data (w .i64 (p_b + x1)) fun p34 =>
 stT (p34.1, p34.2 + (w .i64 (p_b + x1) : Int).toNat * 2) (Qa.c x25) (fun H39 =>
 J5 () H39) H33) H3) ∧
 (ldT H3 Qa.c (p16.1, p16.2 + (w .i64 (p_a + x1) : Int).toNat * 2) fun x41 =>
 Heap.le Hs9 H3 ∧
 ldT H3 Qa.c (p11.1, p11.2 + (w .i64 (p_b + x1) : Int).toNat * 2) fun x44 =>
 Heap.le Hs9 H3 ∧
 ixa p_data (w .i64 (p_a + x1)) fun p46 =>
 stT (p46.1, p46.2 + (w .i64 (p_a + x1) : Int).toNat * 2) (Qa.c x44) (fun H52 =>
 Heap.le Hs9 H52 ∧
 ixa p_data (w .i64 (p_b + x1)) fun p53 =>
 stT (p53.1, p53.2 + (w .i64 (p_b + x1) : Int).toNat * 2) (Qa.c x41) (fun H58 =>
 J5 () H58) H52) H3)))
 (K H3))
theorem Qbb (C p_data p_a p_b p_n p_cmp K H) (h : Qaf C p_data p_a p_b p_n p_cmp K H) : Ql C p_data p_a p_b p_n p_cmp K H := by
 refine Ye Tryz.func117 rfl Tryz.ntmps117 [(0, slv p_data), (1, .int .i64 p_a), (2, .int .i64 p_b), (3, .int .i64 p_n), (4, p_cmp)] (Zo (Za (GL.nil (GC.block (Yp h (fun x1 => [(10, .int .i64 x1), (0, slv p_data), (1, .int .i64 p_a), (2, .int .i64 p_b), (3, .int .i64 p_n)]) ?_)))))
 intro x1 H3 J2 h
 refine GC.seq (Zo (Zm (Zm (Zi (.bool (decide ((x1 : Int) < p_n))) (GL.nil (Yd h (fun u4 h => ?_) fun u4 h => ?_))))))
 refine GC.skip (GC.seq (GC.block ?_))
 obtain ⟨J5, h, hR8⟩ := h
 refine GC.meet (α := Unit) J5 (fun _ => [(0, slv p_data), (1, .int .i64 p_a), (2, .int .i64 p_b), (3, .int .i64 p_n), (10, .int .i64 x1)]) ?_ ?_
 obtain ⟨Hs9, hle10, h⟩ := h
 refine GC.tail (Hs := Hs9) 23 (by kernel_rfl) hle10 (by kernel_rfl) (Zy 0 rfl Ym (Zy 1 rfl Ym (Zy 2 rfl Ym (Zy 3 rfl (OV.ibin (v := .int .i64 (w .i64 (p_a + x1))) rfl rfl rfl) (Zy 4 rfl Ym (Zy 5 rfl Ym (Zy 6 rfl Ym (Zy 7 rfl (OV.ibin (v := .int .i64 (w .i64 (p_b + x1))) rfl rfl rfl) (Zy 8 rfl Ym (Zy 9 rfl Ym (Zy 10 rfl Ym (Zy 11 rfl (OV.ibin (v := .int .i64 (w .i64 (p_b + x1))) rfl rfl rfl) ?_))))))))))))
 obtain ⟨p11, ha12, hb13, u14, hd15, h⟩ := h
 refine Zy 12 rfl (OV.indexAddr rfl rfl rfl rfl ha12 hb13 u14 hd15) (Zy 14 rfl Ym (Zy 15 rfl Ym (Zy 16 rfl Ym (Zy 17 rfl (OV.ibin (v := .int .i64 (w .i64 (p_a + x1))) rfl rfl rfl) ?_))))
 obtain ⟨p16, ha17, hb18, u19, hd20, h⟩ := h
 refine Zy 18 rfl (OV.indexAddr rfl rfl rfl rfl ha17 hb18 u19 hd20) (GT.effs [13, 19] (by kernel_rfl) (by simp) (List.forall_mem_cons.2 ⟨⟨_, rfl, rfl, ?_⟩, List.forall_mem_cons.2 ⟨⟨_, rfl, rfl, ?_⟩, fun _ h => by cases h⟩⟩))
 replace h := h.1
 obtain ⟨x22, v23, h⟩ := h
 refine Zv (OV.loadT rfl rfl rfl v23) ?_
 obtain ⟨hle21, h⟩ := h
 refine GT.back hle21 (GT.eff 19 rfl (by kernel_rfl) rfl ?_)
 obtain ⟨x25, v26, h⟩ := h
 refine Zv (OV.loadT rfl rfl rfl v26) ?_
 obtain ⟨hle24, h⟩ := h
 refine GT.back hle24 ?_
 obtain ⟨p27, ha28, hb29, u30, hd31, h⟩ := h
 refine Zy 20 rfl (OV.indexAddr rfl rfl rfl rfl ha28 hb29 u30 hd31) (GT.eff 21 rfl (by kernel_rfl) rfl (GL.storeT (p := (p27.1, p27.2 + (w .i64 (p_a + x1) : Int).toNat * 2)) (vs := Qa.c x22) h trivial rfl rfl rfl rfl ?_))
 intro H33 h
 obtain ⟨hle32, h⟩ := h
 refine GT.back hle32 ?_
 obtain ⟨p34, ha35, hb36, u37, hd38, h⟩ := h
 refine Zy 22 rfl (OV.indexAddr rfl rfl rfl rfl ha35 hb36 u37 hd38) (GT.done (by kernel_rfl) ?_)
 show GL _ _ _ _ _ [_] _ _
 refine GL.storeT (p := (p34.1, p34.2 + (w .i64 (p_b + x1) : Int).toNat * 2)) (vs := Qa.c x25) h trivial rfl rfl rfl rfl ?_
 intro H39 h
 exact Yj I3 () h
 replace h := h.2
 obtain ⟨x41, v42, h⟩ := h
 refine Zv (OV.loadT rfl rfl rfl v42) ?_
 obtain ⟨hle40, h⟩ := h
 refine GT.back hle40 (GT.eff 13 rfl (by kernel_rfl) rfl ?_)
 obtain ⟨x44, v45, h⟩ := h
 refine Zv (OV.loadT rfl rfl rfl v45) ?_
 obtain ⟨hle43, h⟩ := h
 refine GT.back hle43 ?_
 obtain ⟨p46, ha47, hb48, u49, hd50, h⟩ := h
 refine Zy 20 rfl (OV.indexAddr rfl rfl rfl rfl ha47 hb48 u49 hd50) (GT.eff 21 rfl (by kernel_rfl) rfl (GL.storeT (p := (p46.1, p46.2 + (w .i64 (p_a + x1) : Int).toNat * 2)) (vs := Qa.c x44) h trivial rfl rfl rfl rfl ?_))
 intro H52 h
 obtain ⟨hle51, h⟩ := h
 refine GT.back hle51 ?_
 obtain ⟨p53, ha54, hb55, u56, hd57, h⟩ := h
 refine Zy 22 rfl (OV.indexAddr rfl rfl rfl rfl ha54 hb55 u56 hd57) (GT.done (by kernel_rfl) ?_)
 show GL _ _ _ _ _ [_] _ _
 refine GL.storeT (p := (p53.1, p53.2 + (w .i64 (p_b + x1) : Int).toNat * 2)) (vs := Qa.c x41) h trivial rfl rfl rfl rfl ?_
 intro H58 h
 exact Yj I3 () h
 intro x6 H7 h
 replace h := hR8 x6 H7 h
 refine GL.nil_to (fun _ _ h => h) (GC.region (Zm (Zi (.int .i64 (w .i64 (x1 + 1))) (Za ?_))))
 exact Yj I3 (w .i64 (x1 + 1)) h
 exact GC.exit_ends (fun _ _ hf hs => QO rfl hf hs ⟨rfl, h⟩)
end
end Sx
end
noncomputable section
set_option linter.unusedVariables false
set_option linter.unusedSimpArgs false
namespace Sx
open Go
inductive V where
 | mk (k n : Int) (s : Str) (l : List V)
namespace V
def k : V → Int | .mk k _ _ _ => k
def n : V → Int | .mk _ n _ _ => n
def s : V → Str | .mk _ _ s _ => s
def l : V → List V | .mk _ _ _ l => l
end V
mutual
def vsize : V → Nat
 | .mk _ _ _ l => vsizes l + 1
def vsizes : List V → Nat
 | [] => 0
 | v :: l => vsize v + vsizes l
end
theorem Qej : ∀ {l : List V} {v : V}, v ∈ l → vsize v ≤ vsizes l
 | w :: l, v, h => by
  simp only [vsizes]
  rcases List.mem_cons.1 h with rfl | h
  ·omega
  ·have := Qej h; omega
theorem Qhl {v w : V} (h : w ∈ v.l) : vsize w < vsize v := by
 obtain ⟨k, n, s, l⟩ := v
 have := Qej (show w ∈ l from h)
 simp only [vsize]; omega
/-- by how great a value is -/
theorem V.rec_ {P : V → Prop} (h : ∀ v, (∀ w ∈ v.l, P w) → P v) (v : V) : P v := by
 have : ∀ n v, vsize v ≤ n → P v := by
  intro n
  induction n with
  | zero => intro v hv; obtain ⟨k, n, s, l⟩ := v; simp [vsize] at hv
  | succ n ih => intro v hv; exact h v fun w hw => ih w (by have := Qhl hw; omega)
 exact this _ v (Nat.le_refl _)
mutual
def dep : V → Nat
 | .mk _ _ _ l => deps l + 1
def deps : List V → Nat
 | [] => 0
 | v :: l => max (dep v) (deps l)
end
theorem Qj7 (v : V) : dep v = deps v.l + 1 := by obtain ⟨k, n, s, l⟩ := v; rfl
theorem QdE : ∀ (a b : List V), deps (a ++ b) = max (deps a) (deps b)
 | [], b => by simp [deps]
 | v :: a, b => by simp only [List.cons_append, deps, QdE a b]; omega
theorem Qia {l : List V} {i : Nat} (h : i < l.length) : deps (l.take (i + 1)) = max (deps (l.take i)) (dep l[i]) := by
 rw [List.take_add_one, List.getElem?_eq_getElem h, Option.toList_some, QdE]; simp [deps]
theorem Qh9 : ∀ {l : List V} {v : V}, v ∈ l → dep v ≤ deps l
 | w :: l, v, h => by
  simp only [deps]
  rcases List.mem_cons.1 h with rfl | h
  ·omega
  ·have := Qh9 h; omega
def lowC (c : UInt8) : Bool := decide (97 ≤ c.toNat) && decide (c.toNat ≤ 122)
def nameC (c : UInt8) : Bool := lowC c || (decide (65 ≤ c.toNat) && decide (c.toNat ≤ 90)) || (decide (48 ≤ c.toNat) && decide (c.toNat ≤ 57)) || decide (c.toNat = 95)
def nameS (s : Str) : Bool := !s.isEmpty && decide (s.length ≤ 32) && lowC (s.headD 0) && s.all nameC
def digC (c : UInt8) : Bool := decide (48 ≤ c.toNat) && decide (c.toNat ≤ 57)
def cutD : Str → Option (Str × Str)
 | [] => none
 | c :: t => if c = 46 then some ([], t) else (cutD t).map fun p => (c :: p.1, p.2)
theorem Qg5 : ∀ (a b : Str), (46 : UInt8) ∉ a → cutD (a ++ 46 :: b) = some (a, b)
 | [], b, _ => by simp [cutD]
 | c :: a, b, h => by
  have h1 : c ≠ 46 := fun e => h (by rw [e]; exact List.mem_cons_self ..)
  simp only [List.cons_append, cutD, if_neg h1, Qg5 a b fun hh => h (List.mem_cons_of_mem _ hh)]; rfl
theorem Qg6 : ∀ (a : Str), (46 : UInt8) ∉ a → cutD a = none
 | [], _ => rfl
 | c :: a, h => by
  have h1 : c ≠ 46 := fun e => h (by rw [e]; exact List.mem_cons_self ..)
  simp only [cutD, if_neg h1, Qg6 a fun hh => h (List.mem_cons_of_mem _ hh)]; rfl
theorem Qht : ∀ (s : Str), (46 : UInt8) ∈ s → ∃ a b, s = a ++ 46 :: b ∧ 46 ∉ a
 | c :: s, h => by
  by_cases hc : c = 46
  ·exact ⟨[], s, by rw [hc]; rfl, by simp⟩
  ·obtain ⟨a, b, h1, h2⟩ := Qht s (by simpa [Ne.symm hc] using h)
   exact ⟨c :: a, b, by rw [h1]; rfl, by simp [h2, Ne.symm hc]⟩
def trueS : Str := [116, 114, 117, 101]
def falseS : Str := [102, 97, 108, 115, 101]
def namesS (s : Str) : Bool := if s = trueS ∨ s = falseS then false else match cutD s with
 | some (a, b) => nameS a && nameS b
 | none => nameS s
def unmin (s : Str) : Str := if s.head? = some 45 then s.tail else s
def numS (s : Str) : Bool := !(unmin s).isEmpty && (unmin s).all digC && !(decide ((unmin s).head? = some 48) && decide (s ≠ [48]))
def digits (s : Str) : Nat := (unmin s).length
def okN (k n : Int) (s : Str) (m : Nat) : Bool :=
 if k = 1 then (n == 0 || n == 1) && s.isEmpty && decide (m = 0)
 else if k = 2 then s.isEmpty && decide (m = 0)
 else if k = 3 then numS s && n == 0 && decide (m = 0)
 else if k = 4 then n == 0 && decide (m = 0)
 else if k = 5 then n == 0 && s.isEmpty && decide (m ≠ 1)
 else if k = 6 then n == 0 && namesS s
 else false
def fitN (k : Int) (s : Str) (m : Nat) : Bool :=
 if k = 3 then decide (digits s ≤ 200)
 else if k = 4 then decide (s.length ≤ 4096)
 else if k = 5 then decide (m ≤ 16)
 else if k = 6 then decide (m ≤ 8)
 else true
mutual
def formV : V → Bool
 | .mk k n s l => okN k n s l.length && formVs l
def formVs : List V → Bool
 | [] => true
 | v :: l => formV v && formVs l
end
mutual
def fitsV : V → Bool
 | .mk k n s l => fitN k s l.length && fitsVs l
def fitsVs : List V → Bool
 | [] => true
 | v :: l => fitsV v && fitsVs l
end
theorem Qf6 (v : V) : formV v = (okN v.k v.n v.s v.l.length && formVs v.l) := by obtain ⟨k, n, s, l⟩ := v; rfl
theorem Qi1 (v : V) : fitsV v = (fitN v.k v.s v.l.length && fitsVs v.l) := by obtain ⟨k, n, s, l⟩ := v; rfl
theorem QdU : ∀ (a b : List V), formVs (a ++ b) = (formVs a && formVs b)
 | [], b => by simp [formVs]
 | v :: a, b => by simp only [List.cons_append, formVs, QdU a b, Bool.and_assoc]
theorem QdS : ∀ (a b : List V), fitsVs (a ++ b) = (fitsVs a && fitsVs b)
 | [], b => by simp [fitsVs]
 | v :: a, b => by simp only [List.cons_append, fitsVs, QdS a b, Bool.and_assoc]
theorem Qha {l : List V} {i : Nat} (h : i < l.length) : formVs (l.take (i + 1)) = (formVs (l.take i) && formV l[i]) := by
 rw [List.take_add_one, List.getElem?_eq_getElem h, Option.toList_some, QdU]; simp [formVs]
theorem Qg9 {l : List V} {i : Nat} (h : i < l.length) : fitsVs (l.take (i + 1)) = (fitsVs (l.take i) && fitsV l[i]) := by
 rw [List.take_add_one, List.getElem?_eq_getElem h, Option.toList_some, QdS]; simp [fitsVs]
theorem Qew : ∀ {l : List V} {v : V}, v ∈ l → formV v = false → formVs l = false
 | w :: l, v, h, hv => by
  simp only [formVs]
  rcases List.mem_cons.1 h with rfl | h
  ·rw [hv]; rfl
  ·rw [Qew h hv, Bool.and_false]
theorem QfJ : ∀ {l : List V} {v : V}, v ∈ l → formVs l = true → formV v = true := fun h hl => by
 cases hv : formV _ with
 | true => rfl
 | false => rw [Qew h hv] at hl; cases hl
def checkV (v : V) : Int := if dep v > 64 then 65 else if formV v = false then 4 else if fitsV v = false then 40 else 0
def mayV (v : V) : Bool := decide (checkV v = 0)
theorem Qi8 (v : V) : mayV v = true ↔ dep v ≤ 64 ∧ formV v = true ∧ fitsV v = true := by
 unfold mayV checkV
 rw [decide_eq_true_eq]
 by_cases h1 : dep v > 64
 ·simp [h1]; omega
 ·rw [if_neg h1]
  cases hf : formV v <;> cases hg : fitsV v <;> simp <;> omega
def sgn (a b : Int) : Int := if a < b then -1 else if b < a then 1 else 0
def vcmpS : Str → Str → Int
 | [], [] => 0
 | [], _ :: _ => -1
 | _ :: _, [] => 1
 | a :: s, b :: t => if a = b then vcmpS s t else sgn a.toNat b.toNat
/-- of whole numbers without their signs -/
def cmpD (a b : Str) : Int := if a.length = b.length then vcmpS a b else sgn a.length b.length
def isMin (s : Str) : Bool := decide (s.head? = some 45)
def cmpB (a b : Str) : Int := if isMin a then (if isMin b then cmpD b.tail a.tail else -1) else if isMin b then 1 else cmpD a b
mutual
def cmpV : V → V → Int
 | .mk k n s l, .mk k' n' s' l' =>
  if k ≠ k' then sgn k k'
  else if k = 3 then cmpB s s'
  else if k = 4 then vcmpS s s'
  else if k = 5 then cmpVs l l'
  else if k = 6 then (if vcmpS s s' ≠ 0 then vcmpS s s' else cmpVs l l')
  else sgn n n'
def cmpVs : List V → List V → Int
 | [], [] => 0
 | [], _ :: _ => -1
 | _ :: _, [] => 1
 | v :: l, w :: m => if cmpV v w ≠ 0 then cmpV v w else cmpVs l m
end
def lastB (a b : Bool) : Int := if a = b then 0 else if a then -1 else 1
def mayR (l : List V) : Bool := l.all mayV
def cmpR (l m : List V) : Int := if mayR l = true ∧ mayR m = true then cmpVs l m else lastB (mayR l) (mayR m)
mutual
def sameV : V → V → Bool
 | .mk k n s l, .mk k' n' s' l' => k == k' && n == n' && decide (s = s') && sameVs l l'
def sameVs : List V → List V → Bool
 | [], [] => true
 | v :: l, w :: m => sameV v w && sameVs l m
 | _, _ => false
end
theorem QgJ (h : ∀ v w : V, sameV v w = true → v = w) : ∀ {l m : List V}, sameVs l m = true → l = m
 | [], [], _ => rfl
 | [], _ :: _, h' => by simp [sameVs] at h'
 | _ :: _, [], h' => by simp [sameVs] at h'
 | v :: l, w :: m, h' => by
  simp only [sameVs, Bool.and_eq_true] at h'
  rw [h v w h'.1, QgJ h h'.2]
theorem Qjl {v w : V} (h : sameV v w = true) : v = w := by
 have key : ∀ v : V, ∀ w, sameV v w = true → v = w := by
  refine V.rec_ (P := fun v => ∀ w, sameV v w = true → v = w) fun v ih w h => ?_
  obtain ⟨k, n, s, l⟩ := v
  obtain ⟨k', n', s', l'⟩ := w
  simp only [sameV, Bool.and_eq_true, beq_iff_eq, decide_eq_true_eq] at h
  obtain ⟨⟨⟨rfl, rfl⟩, rfl⟩, h⟩ := h
  have : ∀ (l m : List V), (∀ v ∈ l, ∀ w, sameV v w = true → v = w) → sameVs l m = true → l = m := by
   intro l
   induction l with
   | nil => intro m _ h; cases m with
    | nil => rfl
    | cons _ _ => simp [sameVs] at h
   | cons v l ihl =>
    intro m hh h
    cases m with
    | nil => simp [sameVs] at h
    | cons w m =>
     simp only [sameVs, Bool.and_eq_true] at h
     rw [hh v (List.mem_cons_self ..) w h.1, ihl m (fun v hv => hh v (List.mem_cons_of_mem _ hv)) h.2]
  rw [this l l' ih h]
 exact key v w h
mutual
theorem QhT : ∀ v : V, sameV v v = true
 | .mk k n s l => by simp [sameV, QdI l]
theorem QdI : ∀ l : List V, sameVs l l = true
 | [] => rfl
 | v :: l => by simp [sameVs, QhT v, QdI l]
end
theorem Qbo {l m : List V} : sameVs l m = true ↔ l = m := ⟨QgJ fun _ _ => Qjl, fun h => h ▸ QdI l⟩
end Sx
end

noncomputable section
set_option linter.unusedVariables false
set_option linter.unusedSimpArgs false
set_option maxRecDepth 10000
namespace Sx
section
open Go Go.Proofs
theorem QdT {α β : Type} (f : α → List β) (z : Nat) (hz : ∀ x, (f x).length = z) : ∀ (l : List α) (i : Nat) (x : α), l[i]? = some x → ∀ (j : Nat) (v : β), (f x)[j]? = some v → (l.flatMap f)[i * z + j]? = some v
 | [], i, x, h, j, v, hv => by simp at h
 | y :: l, 0, x, h, j, v, hv => by
  simp at h; subst h
  rw [List.flatMap_cons, Nat.zero_mul, Nat.zero_add, List.getElem?_append_left (List.getElem?_eq_some_iff.1 hv).1]; exact hv
 | y :: l, i + 1, x, h, j, v, hv => by
  have := QdT f z hz l i x (by simpa using h) j v hv
  rw [List.flatMap_cons, List.getElem?_append_right (by rw [hz, Nat.add_mul]; omega), hz]
  rw [show (i + 1) * z + j - z = i * z + j by rw [Nat.add_mul]; omega]; exact this
abbrev TV := Qb
theorem TV.c_len (x : TV) : (Qb.c x).length = 4 := rfl
mutual
def VIs (H : Heap) : V → TV → Prop
 | .mk k n s l, x => x.Kind = k ∧ x.N = n ∧ x.S = s ∧ ∃ xs : List TV, rdsl H x.L (xs.flatMap Qb.c) ∧ x.L.len = xs.length ∧ VsAre H l xs
def VsAre (H : Heap) : List V → List TV → Prop
 | [], [] => True
 | v :: l, x :: xs => VIs H v x ∧ VsAre H l xs
 | [], _ :: _ => False
 | _ :: _, [] => False
end
/-- a row of values -/
def VRow (H : Heap) (t : Sl) (l : List V) : Prop := ∃ xs : List TV, rdsl H t (xs.flatMap Qb.c) ∧ t.len = xs.length ∧ VsAre H l xs
theorem QbZ {H : Heap} {v : V} {x : TV} : VIs H v x ↔ x.Kind = v.k ∧ x.N = v.n ∧ x.S = v.s ∧ VRow H x.L v.l := by obtain ⟨k, n, s, l⟩ := v; rfl
theorem VsAre.len {H : Heap} : ∀ {l : List V} {xs : List TV}, VsAre H l xs → l.length = xs.length
 | [], [], _ => rfl
 | v :: l, x :: xs, h => by have := VsAre.len h.2; simp [this]
theorem VsAre.get {H : Heap} : ∀ {l : List V} {xs : List TV}, VsAre H l xs → ∀ (i : Nat) (v : V) (x : TV), l[i]? = some v → xs[i]? = some x → VIs H v x
 | [], [], _, i, v, x, h, _ => by simp at h
 | v :: l, x :: xs, h, 0, v', x', h1, h2 => by simp at h1 h2; subst h1; subst h2; exact h.1
 | v :: l, x :: xs, h, i + 1, v', x', h1, h2 => VsAre.get h.2 i v' x' (by simpa using h1) (by simpa using h2)
theorem VsAre.of {H : Heap} : ∀ {l : List V} {xs : List TV}, l.length = xs.length → (∀ (i : Nat) (v : V) (x : TV), l[i]? = some v → xs[i]? = some x → VIs H v x) → VsAre H l xs
 | [], [], _, _ => trivial
 | v :: l, x :: xs, h, hg => ⟨hg 0 v x rfl rfl, VsAre.of (by simpa using h) fun i v' x' h1 h2 => hg (i + 1) v' x' (by simpa using h1) (by simpa using h2)⟩
mutual
theorem VIs.le {A B : Heap} (h : A.le B) : ∀ {v : V} {x : TV}, VIs A v x → VIs B v x
 | .mk k n s l, x, ⟨h1, h2, h3, xs, h4, h5, h6⟩ => ⟨h1, h2, h3, xs, QcP h h4, h5, VsAre.le h h6⟩
theorem VsAre.le {A B : Heap} (h : A.le B) : ∀ {l : List V} {xs : List TV}, VsAre A l xs → VsAre B l xs
 | [], [], _ => trivial
 | v :: l, x :: xs, ⟨h1, h2⟩ => ⟨VIs.le h h1, VsAre.le h h2⟩
end
theorem VRow.le {A B : Heap} {t : Sl} {l : List V} (h : VRow A t l) (hle : A.le B) : VRow B t l := by
 obtain ⟨xs, h1, h2, h3⟩ := h
 exact ⟨xs, QcP hle h1, h2, h3.le hle⟩
theorem VRow.len {H : Heap} {t : Sl} {l : List V} (h : VRow H t l) : t.len = l.length := by
 obtain ⟨xs, h1, h2, h3⟩ := h
 rw [h2, h3.len]
theorem VIs.kind {H : Heap} {v : V} {x : TV} (h : VIs H v x) : x.Kind = v.k := (QbZ.1 h).1
theorem VIs.num {H : Heap} {v : V} {x : TV} (h : VIs H v x) : x.N = v.n := (QbZ.1 h).2.1
theorem VIs.txt {H : Heap} {v : V} {x : TV} (h : VIs H v x) : x.S = v.s := (QbZ.1 h).2.2.1
theorem VIs.row {H : Heap} {v : V} {x : TV} (h : VIs H v x) : VRow H x.L v.l := (QbZ.1 h).2.2.2
/-- one of a row's values -/
theorem VRow.ld {A H : Heap} {t : Sl} {l : List V} (h : VRow A t l) (hle : A.le H) {i : Nat} {x : Int} {K : TV → Prop} (hx : x = i) (hi : i < l.length) (k : ∀ y, VIs A l[i] y → K y) : ixa t x fun p => ldT H Qb.c (p.1, p.2 + x.toNat * 4) K := by
 have hl := h.len
 obtain ⟨xs, h1, h2, h3⟩ := h
 have hi2 : i < xs.length := by omega
 have hg := List.getElem?_eq_getElem hi2
 subst hx
 refine Qid (QcP hle h1) (by omega) (by omega) (fun e => ?_) fun p _ hp => ⟨xs[i], ?_, k _ (h3.get i _ _ (List.getElem?_eq_getElem hi) hg)⟩
 ·have := QdT Qb.c 4 TV.c_len xs i _ hg 0 _ rfl
  rw [e] at this; simp at this
 ·refine Qd5 fun j v hj => ?_
  have := QdH hp _ _ (QdT Qb.c 4 TV.c_len xs i _ hg j v hj)
  rw [show p.2 + (i : Int).toNat * 4 + j = p.2 + (i * 4 + j) by omega]; exact this
mutual
def VB : V → Prop
 | .mk k n s l => (0 ≤ k ∧ k ≤ 255) ∧ (-9223372036854775808 ≤ n ∧ n ≤ 9223372036854775807) ∧ s.length ≤ 140737488355328 ∧ l.length ≤ 2513169434843 ∧ VBs l
def VBs : List V → Prop
 | [] => True
 | v :: l => VB v ∧ VBs l
end
theorem VBs.mem : ∀ {l : List V}, VBs l → ∀ {v}, v ∈ l → VB v
 | w :: l, h, v, hv => by
  rcases List.mem_cons.1 hv with rfl | hv
  ·exact h.1
  ·exact VBs.mem h.2 hv
theorem VB.k {v : V} (h : VB v) : 0 ≤ v.k ∧ v.k ≤ 255 := by obtain ⟨k, n, s, l⟩ := v; exact h.1
theorem VB.s {v : V} (h : VB v) : v.s.length ≤ 140737488355328 := by obtain ⟨k, n, s, l⟩ := v; exact h.2.2.1
theorem VB.lM {v : V} (h : VB v) : v.l.length ≤ 2513169434843 := by obtain ⟨k, n, s, l⟩ := v; exact h.2.2.2.1
theorem VB.l {v : V} (h : VB v) : v.l.length ≤ 140737488355328 := by have := h.lM; omega
theorem VB.ls {v : V} (h : VB v) : VBs v.l := by obtain ⟨k, n, s, l⟩ := v; exact h.2.2.2.2
theorem VB.at {v : V} (h : VB v) {i : Nat} (hi : i < v.l.length) : VB v.l[i] := h.ls.mem (List.getElem_mem hi)
section
variable {B : Heap} {b : Nat} {m : Bool} {x : TV}
theorem Qhz (h : B b = some (m, .row (Qb.c x))) : rd B (b, 0) = some (.int .u8 x.Kind) ∧ rd B (b, 1) = some (.int .i64 x.N) ∧ rd B (b, 2) = some (sv x.S) ∧ rd B (b, 3) = some (slv x.L) :=
 ⟨by rw [Qd4 h]; rfl, by rw [Qd4 h]; rfl, by rw [Qd4 h]; rfl, by rw [Qd4 h]; rfl⟩
theorem bxK {K : Int → Prop} (h : B b = some (m, .row (Qb.c x))) (k : K x.Kind) : ldI B .u8 ((b, 0).1, (b, 0).2 + 0) K := ⟨_, (Qhz h).1, k⟩
theorem bxN {K : Int → Prop} (h : B b = some (m, .row (Qb.c x))) (k : K x.N) : ldI B .i64 ((b, 0).1, (b, 0).2 + 1) K := ⟨_, (Qhz h).2.1, k⟩
theorem bxS {K : Str → Prop} (h : B b = some (m, .row (Qb.c x))) (k : K x.S) : ldS B ((b, 0).1, (b, 0).2 + 2) K := ⟨_, (Qhz h).2.2.1, k⟩
theorem bxL {K : Sl → Prop} (h : B b = some (m, .row (Qb.c x))) (k : K x.L) : ldL B ((b, 0).1, (b, 0).2 + 3) K := ⟨_, (Qhz h).2.2.2, k⟩
theorem bxV {K : TV → Prop} (h : B b = some (m, .row (Qb.c x))) (k : K x) : ldT B Qb.c (b, 0) K := ⟨x, Qbc h fun j v hj => by simpa using hj, k⟩
end
section
variable {C : Ctx} {H : Heap}
theorem QfE {v : V} {x : TV} {H : Heap} {m : Nat} {K : Int → Heap → Prop} (hv : VIs H v x) (hB : VB v) (hm : m ≤ 1000) (k : ∀ r : Nat, r ≤ m + 1 → r ≤ dep v → (r = dep v ∨ m + 1 ≤ r) → K r H) : Qai C x m K H := by
 refine V.rec_ (P := fun v => ∀ {x H} {m : Nat} {K : Int → Heap → Prop}, VIs H v x → VB v → m ≤ 1000 → (∀ r : Nat, r ≤ m + 1 → r ≤ dep v → (r = dep v ∨ m + 1 ≤ r) → K r H) → Qai C x m K H) (fun v ih => ?_) v hv hB hm k
 clear hv hB hm k m
 intro x H m K hv hB hm k
 apply Qai.gh
 apply Qfs
 unfold Qdw
 intro b1 n1
 have hr := hv.row
 have hl := hr.len
 have hbl := hB.l
 have hde := Qj7 v
 have hb1 : (H.put b1 (.row (Qb.c x))) b1 = some (true, .row (Qb.c x)) := Heap.put_same ..
 refine ⟨fun y H' => H.le H' ∧ ∃ r : Nat, y = (r : Int) ∧ r ≤ m ∧ r ≤ deps v.l ∧ (r = deps v.l ∨ m ≤ r), ?_, ?_⟩
 rotate_left
 ·rintro y H' ⟨hle, r, rfl, h0, h1, h2⟩
  rw [Qi (by omega) (by omega)]
  have := k (r + 1) (by omega) (by omega) (by omega)
  exact ⟨H, Gh.le hle, by simpa using this⟩
 refine bxL hb1 ?_
 refine ⟨fun y H' => ∃ i r : Nat, y = ((r : Int), (i : Int)) ∧ i ≤ v.l.length ∧ H.le H' ∧ r ≤ m ∧ r ≤ deps (v.l.take i) ∧ (r = deps (v.l.take i) ∨ m ≤ r), fun y _ => v.l.length - y.2.toNat, ⟨0, 0, rfl, Nat.zero_le _, Heap.le_put n1, Nat.zero_le _, Nat.zero_le _, .inl (by simp [deps])⟩, ?_⟩
 rintro _ H' ⟨i, r, rfl, hi, hle, hr0, hr1, hr2⟩
 have hdti : deps (v.l.take i) ≤ deps v.l := by
  have h1 := QdE (v.l.take i) (v.l.drop i)
  rw [List.take_append_drop] at h1; omega
 dsimp only
 rw [hl]
 refine ift.of (fun h => ?_) (fun h => ?_)
 ·have hlt : i < v.l.length := by have := of_decide_eq_true h; omega
  have hmem := List.getElem_mem hlt
  have hdl := Qh9 hmem
  refine hr.ld hle rfl hlt fun y hy => ?_
  intro b20 n20
  refine ⟨_, Heap.put_same .., by simp [Qb.c], ?_⟩
  rw [Heap.put_put]
  have esp : splice (Qb.c Qb.zero) (b20, 0).2 (Qb.c y) = Qb.c y := rfl
  rw [esp]
  have hle2 := hle.trans (Heap.le_put n20 (g := .row (Qb.c y)) (m := true))
  refine ift.of (fun h => ?_) (fun h => ?_)
  ·have hge : m ≤ r := by have := of_decide_eq_true h; omega
   exact ⟨hle2, r, rfl, by omega, by omega, .inr hge⟩
  ·have hltm : r < m := by have := of_decide_eq_false h; omega
   refine bxV (Heap.put_same ..) ?_
   have em : w .i64 ((m : Int) - 1) = ((m - 1 : Nat) : Int) := by rw [Qi (by omega) (by omega)]; omega
   rw [em]
   refine ih _ hmem (hy.le hle2) (hB.at hlt) (by omega) fun q hq0 hq1 hq2 => ?_
   have hdt := Qia hlt
   rw [Qi (by omega) (by omega)]
   refine ⟨⟨i + 1, max q r, ?_, by omega, hle2, by omega, by omega, ?_⟩, by first | omega | (dsimp only; omega)⟩
   ·refine Prod.ext ?_ rfl
    dsimp only
    split <;> omega
   ·rw [hdt]; omega
 ·have hie : i = v.l.length := by have := of_decide_eq_false h; omega
  subst hie
  rw [List.take_length] at hr1 hr2
  exact ⟨hle, r, rfl, hr0, hr1, hr2⟩
end
end
section
open Go Go.Proofs
theorem u8eq (c : UInt8) (n : Nat) (hn : n < 256) : ((c.toNat : Int) == (n : Int)) = decide (c = UInt8.ofNat n) := by
 rw [Bool.eq_iff_iff]; simp only [decide_eq_true_eq, beq_iff_eq]
 constructor
 ·intro h; exact UInt8.toNat_inj.1 (by rw [UInt8.toNat_ofNat']; omega)
 ·rintro rfl; rw [UInt8.toNat_ofNat']; omega
theorem e48 (c : UInt8) : ((c.toNat : Int) == 48) = decide (c = 48) := u8eq c 48 (by omega)
theorem QiW {α : Type} {p : α → Bool} {s : List α} {i : Nat} (h : i < s.length) : (s.take (i + 1)).all p = ((s.take i).all p && p s[i]) := by
 rw [List.take_add_one, List.getElem?_eq_getElem h, Option.toList_some, List.all_append]; simp
theorem Qj6 {α : Type} {p : α → Bool} {s : List α} {x : α} (h : x ∈ s) (hp : p x = false) : s.all p = false := by
 rw [List.all_eq_false]; exact ⟨x, h, by simp [hp]⟩
theorem getE {s : Str} {i : Nat} (h : i < s.length) : s[((i : Nat) : Int).toNat]? = some s[i] := by simp [h]
theorem getL {s : Str} (h : 0 < s.length) {x : Int} (hx : x = (s.length : Int) - 1) : s[x.toNat]? = some (s.getLast (List.ne_nil_of_length_pos h)) := by
 subst hx
 have : ((s.length : Int) - 1).toNat = s.length - 1 := by omega
 rw [this, List.getElem?_eq_getElem (by omega), List.getLast_eq_getElem]
section
variable {C : Ctx} {H : Heap}
theorem Qei {s : Str} {K : Bool → Heap → Prop} (hs : s.length ≤ 140737488355328) (k : K (nameS s) H) : Qbn C s K H := by
 apply Qf1
 unfold Qef
 refine ⟨fun b H' => H = H' ∧ b = (s.isEmpty || decide (s.length > 32) || decide ((s.headD 0).toNat < 97)), ?_, ?_⟩
 ·refine ift.of (fun h => ⟨rfl, ?_⟩) (fun h => ?_)
  ·simp only [Bool.or_eq_true, decide_eq_true_eq, beq_iff_eq] at h
   rcases h with rfl | h
   ·rfl
   ·have : decide (s.length > 32) = true := by rw [decide_eq_true_eq]; omega
    rw [this]; simp
  ·cases s with
   | nil => simp at h
   | cons c t =>
    refine ⟨c, by omega, rfl, rfl, ?_⟩
    simp only [Bool.or_eq_false_iff, decide_eq_false_iff_not] at h
    have : decide ((c :: t).length > 32) = false := by rw [decide_eq_false_iff_not]; omega
    rw [this]
    simp only [List.isEmpty_cons, Bool.false_or, List.headD_cons]
    exact (decide_eq_decide.2 (by omega) : decide ((c.toNat : Int) < 97) = decide (c.toNat < 97))
 rintro b _ ⟨rfl, rfl⟩
 refine ⟨fun b H' => H = H' ∧ b = (s.isEmpty || decide (s.length > 32) || !lowC (s.headD 0)), ?_, ?_⟩
 ·refine ift.of (fun h => ⟨rfl, ?_⟩) (fun h => ?_)
  ·simp only [Bool.or_eq_true, decide_eq_true_eq] at h
   rcases h with (h | h) | h
   ·rw [h]; rfl
   ·have : decide (s.length > 32) = true := by rw [decide_eq_true_eq]; omega
    rw [this]; simp
   ·have : lowC (s.headD 0) = false := by unfold lowC; rw [decide_eq_false (by omega)]; rfl
    rw [this]; simp
  ·simp only [Bool.or_eq_false_iff, decide_eq_false_iff_not] at h
   cases s with
   | nil => simp at h
   | cons c t =>
    refine ⟨c, by omega, rfl, rfl, ?_⟩
    have : decide ((c :: t).length > 32) = false := by rw [decide_eq_false_iff_not]; omega
    rw [this]
    simp only [List.isEmpty_cons, Bool.false_or, List.headD_cons] at h ⊢
    unfold lowC
    rw [decide_eq_true (by omega : 97 ≤ c.toNat), Bool.true_and, ← decide_not, decide_eq_decide]; omega
 rintro b _ ⟨rfl, rfl⟩
 refine ift.of (fun h => ?_) (fun h => ?_)
 ·have : nameS s = false := by
   unfold nameS
   simp only [Bool.or_eq_true, decide_eq_true_eq, Bool.not_eq_true'] at h
   rcases h with (h | h) | h
   ·rw [h]; rfl
   ·have : decide (s.length ≤ 32) = false := by rw [decide_eq_false_iff_not]; omega
    rw [this]; simp
   ·rw [h]; simp
  rw [this] at k; exact k
 have hn : nameS s = s.all nameC := by
  unfold nameS
  simp only [Bool.or_eq_false_iff, decide_eq_false_iff_not, Bool.not_eq_false'] at h
  have : decide (s.length ≤ 32) = true := by rw [decide_eq_true_eq]; omega
  rw [h.1.1, this, h.2]; simp
 refine ⟨fun x H' => ∃ i : Nat, x = (i : Int) ∧ i ≤ s.length ∧ H = H' ∧ (s.take i).all nameC = true, fun x _ => s.length - x.toNat, ⟨0, rfl, Nat.zero_le _, rfl, rfl⟩, ?_⟩
 rintro x _ ⟨i, rfl, hi, rfl, ha⟩
 refine ift.of (fun h => ?_) (fun h => ?_)
 ·have hlt : i < s.length := by have := of_decide_eq_true h; omega
  refine ⟨s[i], by omega, getE hlt, ?_⟩
  dsimp only
  have hm := List.getElem_mem hlt
  have hat := QiW (p := nameC) hlt
  generalize s[i] = c at *
  have e : (!(((((decide ((c.toNat : Int) ≥ 97)) && (decide ((c.toNat : Int) ≤ 122))) || ((decide ((c.toNat : Int) ≥ 65)) && (decide ((c.toNat : Int) ≤ 90)))) || ((decide ((c.toNat : Int) ≥ 48)) && (decide ((c.toNat : Int) ≤ 57)))) || ((c.toNat : Int) == 95))) = !nameC c := by
   unfold nameC lowC
   have h0 : decide ((c.toNat : Int) ≥ 97) = decide (97 ≤ c.toNat) := by rw [decide_eq_decide]; omega
   have h01 : decide ((c.toNat : Int) ≤ 122) = decide (c.toNat ≤ 122) := by rw [decide_eq_decide]; omega
   have h1 : decide ((c.toNat : Int) ≥ 65) = decide (65 ≤ c.toNat) := by rw [decide_eq_decide]; omega
   have h2 : decide ((c.toNat : Int) ≤ 90) = decide (c.toNat ≤ 90) := by rw [decide_eq_decide]; omega
   have h3 : decide ((c.toNat : Int) ≥ 48) = decide (48 ≤ c.toNat) := by rw [decide_eq_decide]; omega
   have h4 : decide ((c.toNat : Int) ≤ 57) = decide (c.toNat ≤ 57) := by rw [decide_eq_decide]; omega
   have h5 : ((c.toNat : Int) == 95) = decide (c.toNat = 95) := by
    rw [Bool.eq_iff_iff]; simp only [beq_iff_eq, decide_eq_true_eq]; omega
   rw [h0, h01, h1, h2, h3, h4, h5]
  rw [e]
  refine ift.of (fun h => ?_) (fun h => ?_)
  ·rw [hn, Qj6 hm (by simpa using h)] at k; exact k
  ·rw [Qi (by omega) (by omega)]
   refine ⟨⟨i + 1, by omega, by omega, rfl, ?_⟩, by first | omega | (dsimp only; omega)⟩
   rw [hat, ha]; simpa using h
 ·have hie : i = s.length := by have := of_decide_eq_false h; omega
  rw [hie, List.take_length] at ha
  rw [hn, ha] at k; exact k
end
end
section
open Go Go.Proofs
theorem QfK (c : UInt8) : ∀ s : Str, (Lib.indexByte s c = -1 ∧ c ∉ s) ∨ ∃ k : Nat, Lib.indexByte s c = (k : Int) ∧ ∃ a b, s = a ++ c :: b ∧ a.length = k ∧ c ∉ a
 | [] => .inl ⟨rfl, by simp⟩
 | b :: s => by
  unfold Lib.indexByte
  by_cases h : b = c
  ·subst h
   exact .inr ⟨0, by simp, [], s, rfl, rfl, by simp⟩
  ·have hb : (b == c) = false := by simpa using h
   rw [hb]
   rcases QfK c s with ⟨h1, h2⟩ | ⟨k, h1, a, d, h2, h3, h4⟩
   ·left
    rw [h1]
    refine ⟨by simp, by simp [h2, Ne.symm h]⟩
   ·right
    refine ⟨k + 1, ?_, b :: a, d, by rw [h2]; rfl, by simp [h3], by simp [h4, Ne.symm h]⟩
    rw [h1]
    have : ((k : Int) == -1) = false := by rw [beq_eq_false_iff_ne]; omega
    simp [this]
def setD (cs : List Value) (l : Str) : List Value := l.foldl (fun cs c => cs.set c.toNat (.bool true)) cs
def setD0 : List Value := List.replicate 256 (.bool false)
def digS : Str := [48, 49, 50, 51, 52, 53, 54, 55, 56, 57]
theorem QhC (l : Str) : ∀ cs, (setD cs l).length = cs.length := by
 induction l with
 | nil => intro cs; rfl
 | cons c l ih => intro cs; simp only [setD, List.foldl_cons] at ih ⊢; rw [ih]; simp
theorem QiF (l : Str) (c : UInt8) (cs : List Value) : setD cs (l ++ [c]) = (setD cs l).set c.toNat (.bool true) := by simp [setD]
theorem QjA (l : Str) : ∀ cs : List Value, cs.all Value.oneCell' = true → (setD cs l).all Value.oneCell' = true := by
 induction l with
 | nil => intro cs h; exact h
 | cons c l ih =>
  intro cs h
  simp only [setD, List.foldl_cons] at ih ⊢
  refine ih _ ?_
  rw [List.all_eq_true] at h ⊢
  intro x hx
  rcases List.mem_or_eq_of_mem_set hx with hx | rfl
  ·exact h x hx
  ·rfl
theorem Qjn : ∀ n : Nat, n < 256 → (match (setD setD0 digS)[n]? with | some (.bool b) => b == (decide (48 ≤ n) && decide (n ≤ 57)) | _ => false) = true := by decide +kernel
theorem Qjm (c : UInt8) : (setD setD0 digS)[c.toNat]? = some (.bool (digC c)) := by
 have h := Qjn c.toNat c.toBitVec.isLt
 unfold digC
 generalize (setD setD0 digS)[c.toNat]? = o at *
 cases o with
 | none => simp at h
 | some v => cases v <;> simp at h ⊢; exact h
section
variable {C : Ctx} {H : Heap}
theorem Qex {s p : Str} {K : Bool → Heap → Prop} (k : K (p.isPrefixOf s) H) : QF C s p K H := by
 apply Qbv
 unfold QaB
 refine ⟨fun b H' => H = H' ∧ b = p.isPrefixOf s, ?_, ?_⟩
 ·refine ift.of (fun h => ?_) (fun h => ⟨rfl, ?_⟩)
  ·have hl : p.length ≤ s.length := by have := of_decide_eq_true h; omega
   refine ⟨by omega, by omega, by omega, s.take p.length, by simp, rfl, ?_⟩
   rw [Bool.eq_iff_iff, List.isPrefixOf_iff_prefix, beq_iff_eq, List.prefix_iff_eq_take]
   exact ⟨fun h => h.symm, fun h => h.symm⟩
  ·have hl := of_decide_eq_false h
   cases hh : p.isPrefixOf s with
   | false => rfl
   | true =>
    have := (List.isPrefixOf_iff_prefix.1 hh).length_le
    omega
 ·rintro b _ ⟨rfl, rfl⟩
  exact k
theorem Qgh {s p : Str} {K : Str → Heap → Prop} (k : K (if p.isPrefixOf s then s.drop p.length else s) H) : QX C s p K H := by
 apply QcZ
 unfold QbM
 apply Qbq
 unfold Qar
 refine Qex ?_
 refine ift.of (fun h => ?_) (fun h => ?_)
 ·rw [if_pos h] at k
  have := (List.isPrefixOf_iff_prefix.1 h).length_le
  exact ⟨by omega, by omega, by omega, _, by simp, k⟩
 ·rw [if_neg (by rw [h]; decide)] at k; exact k
theorem Qh7 {s : Str} {K : Str → Str → Bool → Heap → Prop} (hs : s.length ≤ 140737488355328) (k : match cutD s with | some (a, b) => K a b true H | none => K s [] false H) : QcJ C s [46] K H := by
 apply Qfq
 unfold Qdu
 apply Qb0
 unfold Qa5
 have key : ∀ {K : Int → Heap → Prop}, K (Lib.indexByte s 46) H → Qag C s [46] K H := by
  intro K k
  apply QbN
  unfold QaR
  refine ift.of (fun h => ?_) (fun h => ?_)
  ·have hs : [46] = s := by simpa using h
   subst hs
   exact k
  ·refine QaU rfl ⟨46, by omega, rfl, ?_⟩
   apply Qbw
   unfold QaC
   exact k
 refine key ?_
 rcases QfK 46 s with ⟨h1, h2⟩ | ⟨i, h1, a, b, h2, h3, h4⟩
 ·rw [h1]
  rw [Qg6 s h2] at k
  exact QA rfl k
 ·rw [h1]
  subst h2
  rw [Qg5 a b h4] at k
  subst h3
  simp only [List.length_append, List.length_cons] at hs
  refine QaU (by rw [decide_eq_true_eq]; omega) ?_
  refine ⟨by omega, by omega, by simp; omega, a, by simp, ?_⟩
  have e1 : (([46] : Str).length : Int) = 1 := rfl
  rw [e1, Qi (by omega) (by omega)]
  refine ⟨by omega, by simp; omega, by omega, b, ?_, k⟩
  have e2 : ((a.length : Int) + 1).toNat = a.length + 1 := by omega
  rw [List.take_of_length_le (by omega), e2, List.drop_append]
  simp
/-- the set of digits -/
def DSet (H : Heap) (b : Nat) : Prop := H b = some (true, .row (setD setD0 digS))
theorem Qe4 {b : Nat} {c : UInt8} {K : Bool → Heap → Prop} (h : DSet H b) (k : K (digC c) H) : QV C (some (b, 0)) (c.toNat : Int) K H := by
 apply QbW
 unfold Qa0
 refine ⟨(b, 0), rfl, by omega, by have := c.toBitVec.isLt; have : c.toNat < 256 := this; omega, digC c, ?_, k⟩
 rw [Qd4 h]
 have := Qjm c
 simpa using this
theorem Qjs {b : Nat} {s : Str} {K : Str → Heap → Prop} (hs : s.length ≤ 140737488355328) (h : DSet H b) (k : ∀ t, t.length ≤ s.length → t.all digC = s.all digC → K t H) : QaI C s (some (b, 0)) K H := by
 apply Qcr
 unfold Qbg
 refine ⟨fun t H' => H = H' ∧ t.length ≤ s.length ∧ t.all digC = s.all digC, ?_, ?_⟩
 rotate_left
 ·rintro t _ ⟨rfl, h1, h2⟩
  exact k t h1 h2
 refine ⟨fun t H' => H = H' ∧ t.length ≤ s.length ∧ t.all digC = s.all digC, fun t _ => t.length, ⟨rfl, Nat.le_refl _, rfl⟩, ?_⟩
 rintro t _ ⟨rfl, h1, h2⟩
 refine ift.of (fun hh => ?_) (fun hh => ⟨rfl, h1, h2⟩)
 have hl : 0 < t.length := by have := of_decide_eq_true hh; omega
 have hne := List.ne_nil_of_length_pos hl
 have hd : t.dropLast ++ [t.getLast hne] = t := List.dropLast_concat_getLast hne
 rw [Qi (by omega) (by omega)]
 refine ⟨t.getLast hne, by omega, getL hl rfl, ?_⟩
 refine Qe4 h ?_
 refine ift.of (fun hc => ⟨rfl, h1, h2⟩) (fun hc => ?_)
 have e1 : (t.take ((t.length : Int) - 1).toNat).drop (0 : Int).toNat = t.dropLast := by
  have : ((t.length : Int) - 1).toNat = t.length - 1 := by omega
  rw [this, List.dropLast_eq_take]; simp
 refine ⟨by omega, by omega, by omega, _, e1.symm, ?_⟩
 have hdl := List.length_dropLast (xs := t)
 refine ⟨⟨rfl, by omega, ?_⟩, by dsimp only; omega⟩
 rw [← h2]
 conv => rhs; rw [← hd]
 rw [List.all_append]
 simp at hc
 simp [hc]
theorem Qjr {b : Nat} {s : Str} {K : Str → Heap → Prop} (hs : s.length ≤ 140737488355328) (h : DSet H b) (k : ∀ t, t.all digC = s.all digC → (t = [] ∨ t.all digC = false) → K t H) : QaL C s (some (b, 0)) K H := by
 apply Qcx
 unfold Qbp
 refine ⟨fun t H' => H = H' ∧ t.all digC = s.all digC ∧ (t = [] ∨ t.all digC = false), ?_, ?_⟩
 rotate_left
 ·rintro t _ ⟨rfl, h1, h2⟩
  exact k t h1 h2
 refine ⟨fun t H' => H = H' ∧ t.length ≤ s.length ∧ t.all digC = s.all digC, fun t _ => t.length, ⟨rfl, Nat.le_refl _, rfl⟩, ?_⟩
 rintro t _ ⟨rfl, h1, h2⟩
 cases t with
 | nil => exact QA rfl ⟨rfl, h2, .inl rfl⟩
 | cons c t =>
  refine QaU (by rw [decide_eq_true_eq]; simp only [List.length_cons]; omega) ?_
  refine ⟨c, by omega, rfl, ?_⟩
  refine Qe4 h ?_
  refine ift.of (fun hc => ⟨rfl, h2, .inr ?_⟩) (fun hc => ?_)
  ·simp at hc; simp [hc]
  ·refine ⟨by omega, by simp only [List.length_cons]; omega, by omega, t, ?_, ⟨rfl, by simp only [List.length_cons] at h1; omega, ?_⟩, by simp⟩
   ·rw [List.take_of_length_le (by omega)]; rfl
   ·rw [← h2]; simp at hc; simp [hc]
theorem Qf7 {K : List Value → Bool → Heap → Prop} (k : K (setD setD0 digS) true H) : Qz C digS K H := by
 apply Qz.gh
 apply QcF
 unfold QbE
 intro b n
 refine ⟨fun x H' => ∃ i : Nat, x = (i : Int) ∧ i ≤ 10 ∧ H' = H.put b (.row (setD setD0 (digS.take i))), fun x _ => 10 - x.toNat, ⟨0, rfl, by omega, rfl⟩, ?_⟩
 rintro x _ ⟨i, rfl, hi, rfl⟩
 have hlen : (setD setD0 (digS.take i)).length = 256 := by rw [QhC]; simp [setD0]
 refine ift.of (fun h => ?_) (fun h => ?_)
 ·have hlt : i < digS.length := by have := of_decide_eq_true h; omega
  have hlt' : i < 10 := hlt
  refine ⟨digS[i], by omega, getE hlt, ?_⟩
  have hm : ∀ c ∈ digS, c.toNat < 128 := by decide
  have h128 := hm _ (List.getElem_mem hlt)
  have htk : digS.take (i + 1) = digS.take i ++ [digS[i]] := by rw [List.take_add_one, List.getElem?_eq_getElem hlt]; rfl
  generalize digS[i] = c at *
  refine QA (by rw [decide_eq_false_iff_not]; omega) ?_
  refine ⟨by omega, by omega, _, Heap.put_same .., by rw [hlen]; simp; omega, ?_⟩
  rw [Qi (by omega) (by omega), Heap.put_put]
  refine ⟨⟨i + 1, by omega, by omega, ?_⟩, by first | omega | (dsimp only; omega)⟩
  rw [htk, QiF]
  have : (b, 0).2 + (c.toNat : Int).toNat * 1 = c.toNat := by simp
  rw [this]
 ·have hi10 : i = 10 := by have := of_decide_eq_false h; have : digS.length = 10 := rfl; omega
  subst hi10
  have e : digS.take 10 = digS := rfl
  rw [e] at hlen ⊢
  have hr : ∀ {B : Heap}, B b = some (true, .row (setD setD0 digS)) → rds B (b, 0) (setD setD0 digS) := fun h => Qbc h fun j v hj => by simpa using hj
  refine ⟨_, hlen, hr (Heap.put_same ..), hlen, QjA _ _ (by decide +kernel), _, Heap.put_same .., by simp, ?_⟩
  have esp : splice (setD setD0 digS) (b, 0).2 (setD setD0 digS) = setD setD0 digS := by
   unfold splice; simp
  rw [esp, Heap.put_put]
  exact ⟨_, hlen, hr (Heap.put_same ..), H, Gh.le (Heap.le_put n), k⟩
theorem QhV {s : Str} {K : Str → Heap → Prop} (hs : s.length ≤ 140737488355328) (k : ∀ t, (t = [] ↔ s.all digC = true) → K t H) : QaF C s digS K H := by
 apply QaF.gh
 apply QeS
 unfold Qc8
 refine ift.of (fun h => ?_) (fun h => ?_)
 ·have : s = [] := by simpa [digS] using h
  subst this
  exact ⟨H, Gh.refl _, k [] (by simp)⟩
 refine ⟨fun b H' => H = H' ∧ b = false, QA rfl ⟨rfl, rfl⟩, ?_⟩
 rintro _ _ ⟨rfl, rfl⟩
 refine QA rfl ?_
 refine Qf7 ?_
 intro b n
 have hlen : (setD setD0 digS).length = 256 := by rw [QhC]; simp [setD0]
 refine ⟨hlen, QjA _ _ (by decide +kernel), _, Heap.put_same .., by rw [hlen]; simp, ?_⟩
 have esp : splice (List.replicate 256 (.bool false : Value)) (b, 0).2 (setD setD0 digS) = setD setD0 digS := by
  unfold splice; simp [hlen]
 rw [esp, Heap.put_put]
 refine QaU rfl ?_
 refine Qjs hs (Heap.put_same ..) fun t ht1 ht2 => ?_
 refine Qjr (by omega) (Heap.put_same ..) fun u hu1 hu2 => ?_
 refine ⟨H, Gh.le (Heap.le_put n), k u ?_⟩
 rw [← ht2, ← hu1]
 constructor
 ·rintro rfl; rfl
 ·intro h
  rcases hu2 with h2 | h2
  ·exact h2
  ·rw [h] at h2; cases h2
theorem Qfi {s : Str} {K : Int → Bool → Heap → Prop} (hs : s.length ≤ 140737488355328) (k : K (if numS s then (digits s : Int) else 0) (numS s) H) : Qct C s K H := by
 apply QeU
 unfold Qda
 refine Qgh ?_
 have e : (if ([45] : Str).isPrefixOf s then s.drop ([45] : Str).length else s) = unmin s := by
  unfold unmin
  cases s with
  | nil => rfl
  | cons c t =>
   by_cases hc : c = 45
   ·subst hc; simp [List.isPrefixOf]
   ·simp [List.isPrefixOf, hc, Ne.symm hc]
 rw [e]
 have hul : (unmin s).length ≤ s.length := by unfold unmin; split <;> simp
 have hdg : digits s = (unmin s).length := rfl
 have hnu : numS s = (!(unmin s).isEmpty && (unmin s).all digC && !(decide ((unmin s).head? = some 48) && decide (s ≠ [48]))) := rfl
 rw [hdg, hnu] at k
 clear hdg hnu e
 generalize unmin s = d at *
 refine ⟨fun b H' => H = H' ∧ b = !(!d.isEmpty && d.all digC), ?_, ?_⟩
 ·refine ift.of (fun h => ⟨rfl, ?_⟩) (fun h => ?_)
  ·have : d = [] := by simpa using h
   subst this; rfl
  ·have hne : d ≠ [] := by simpa using h
   refine QhV (by omega) fun t ht => ⟨rfl, ?_⟩
   have he : d.isEmpty = false := by cases d with
    | nil => exact absurd rfl hne
    | cons _ _ => rfl
   rw [he]
   cases hd : d.all digC with
   | true => rw [ht.2 hd]; rfl
   | false =>
    have : t ≠ [] := fun e => by rw [ht.1 e] at hd; cases hd
    simpa using this
 rintro b _ ⟨rfl, rfl⟩
 refine ⟨fun b H' => H = H' ∧ b = !(!d.isEmpty && d.all digC && !(decide (d.head? = some 48) && decide (s ≠ [48]))), ?_, ?_⟩
 ·refine ift.of (fun h => ⟨rfl, ?_⟩) (fun h => ?_)
  ·simp only [Bool.not_eq_true'] at h
   rw [h]; rfl
  ·simp only [Bool.not_eq_false'] at h
   rw [h]
   cases d with
   | nil => simp at h
   | cons c t =>
    refine ⟨c, by omega, rfl, rfl, ?_⟩
    rw [e48]
    simp only [List.head?_cons, Option.some.injEq, Bool.true_and, Bool.not_not]
    congr 1
    rw [decide_not]; congr 1
    rw [Bool.eq_iff_iff]; simp
 rintro b _ ⟨rfl, rfl⟩
 refine ift.of (fun h => ?_) (fun h => ?_)
 ·simp only [Bool.not_eq_true'] at h
  rw [h] at k; exact k
 ·simp only [Bool.not_eq_false'] at h
  rw [h] at k; exact k
end
end
section
open Go Go.Proofs
section
variable {C : Ctx} {H : Heap}
theorem sEmpty {s : Str} : (s == ([] : Str)) = s.isEmpty := by cases s <;> rfl
theorem lenZ {l : List V} {n : Nat} (h : n = l.length) (m : Nat) : ((n : Int) == (m : Int)) = decide (l.length = m) := by
 rw [Bool.eq_iff_iff]; simp only [beq_iff_eq, decide_eq_true_eq]; omega
theorem Qil {k n : Int} {s : Str} {m : Nat} (h : okN k n s m = true) (hk : k = 3) : numS s = true := by
 unfold okN at h
 rw [if_neg (by omega), if_neg (by omega), if_pos hk] at h
 simp only [Bool.and_eq_true] at h
 exact h.1.1
end
end
section
open Go Go.Proofs
theorem Qig (s : Str) : namesS s = (match cutD s with | some (a, b) => nameS a && nameS b | none => nameS s && !decide (s = trueS) && !decide (s = falseS)) := by
 unfold namesS
 by_cases ht : s = trueS
 ·subst ht; rfl
 by_cases hf : s = falseS
 ·subst hf; rfl
 rw [if_neg (fun h => h.elim ht hf)]
 cases hc : cutD s with
 | none => simp [ht, hf]
 | some p => rfl
section
variable {C : Ctx} {H : Heap}
theorem QjI {v : V} {x : TV} {H : Heap} {K : Bool → Bool → Heap → Prop} (hv : VIs H v x) (hB : VB v) (k : ∀ g, (formV v = true → g = fitsV v) → K (formV v) g H) : QJ C x K H := by
 refine V.rec_ (P := fun v => ∀ {x H} {K : Bool → Bool → Heap → Prop}, VIs H v x → VB v → (∀ g, (formV v = true → g = fitsV v) → K (formV v) g H) → QJ C x K H) (fun v ih => ?_) v hv hB k
 clear hv hB k
 intro x H K hv hB k
 apply QJ.gh
 apply QdP
 unfold Qcp
 intro b1 n1
 have hr := hv.row
 have hl := hr.len
 have hbl := hB.l
 have hbs := hB.s
 have hk := hv.kind
 have hn := hv.num
 have ht := hv.txt
 have hb1 : (H.put b1 (.row (Qb.c x))) b1 = some (true, .row (Qb.c x)) := Heap.put_same ..
 have hle1 := Heap.le_put n1 (g := .row (Qb.c x)) (m := true)
 generalize H.put b1 (.row (Qb.c x)) = H1 at *
 refine bxN hb1 ?_
 refine ⟨fun b H' => H1 = H', ?_, ?_⟩
 ·exact ift.of (fun _ => bxS hb1 rfl) (fun _ => rfl)
 rintro _ _ rfl
 refine ⟨fun b H' => H1 = H', ?_, ?_⟩
 ·exact ift.of (fun _ => bxL hb1 rfl) (fun _ => rfl)
 rintro _ _ rfl
 refine ⟨fun b H' => H1 = H' ∧ b.1 = okN v.k v.n v.s v.l.length ∧ (b.1 = true → b.2 = fitN v.k v.s v.l.length), ?_, ?_⟩
 rotate_left
 ·rintro ⟨o, g⟩ _ ⟨rfl, ho, hg⟩
  dsimp only at ho hg ⊢
  subst ho
  refine bxL hb1 ?_
  refine ⟨fun y H' => ∃ i : Nat, y.2.2 = (i : Int) ∧ i ≤ v.l.length ∧ H.le H' ∧ y.1 = (okN v.k v.n v.s v.l.length && formVs (v.l.take i)) ∧ (y.1 = true → y.2.1 = (fitN v.k v.s v.l.length && fitsVs (v.l.take i))), fun y _ => v.l.length - y.2.2.toNat, ⟨0, rfl, Nat.zero_le _, hle1, by simp [formVs], fun h => by simp [fitsVs, hg h]⟩, ?_⟩
  rintro ⟨f, g', y⟩ H2 ⟨i, hy, hi, hle, h1, h2⟩
  dsimp only at hy h1 h2
  subst hy
  dsimp only
  rw [hl]
  refine ift.of (fun h => ?_) (fun h => ?_)
  ·have hlt : i < v.l.length := by have := of_decide_eq_true h; omega
   have hmem := List.getElem_mem hlt
   refine hr.ld hle rfl hlt fun z hz => ?_
   intro b20 n20
   refine ⟨_, Heap.put_same .., by simp [Qb.c], ?_⟩
   rw [Heap.put_put]
   have esp : splice (Qb.c Qb.zero) (b20, 0).2 (Qb.c z) = Qb.c z := rfl
   rw [esp]
   have hle2 := hle.trans (Heap.le_put n20 (g := .row (Qb.c z)) (m := true))
   refine bxV (Heap.put_same ..) ?_
   refine ih _ hmem (hz.le hle2) (hB.at hlt) fun q hq => ?_
   rw [Qi (by omega) (by omega)]
   refine ⟨⟨i + 1, by omega, by omega, hle2, ?_, fun hh => ?_⟩, by first | omega | (dsimp only; omega)⟩
   ·rw [h1, Qha hlt, Bool.and_assoc]
   ·rw [Bool.and_eq_true] at hh
    rw [h2 hh.1, Qg9 hlt, hq hh.2, Bool.and_assoc]
  ·have hie : i = v.l.length := by have := of_decide_eq_false h; omega
   subst hie
   rw [List.take_length] at h1 h2
   rw [← Qf6] at h1
   rw [← Qi1] at h2
   refine ⟨H, Gh.le hle, ?_⟩
   rw [h1] at h2 ⊢
   exact k g' h2
 refine bxK hb1 ?_
 rw [hk]
 refine ift.of (fun h => ?_) (fun h => ?_)
 ·have h : v.k = 1 := by simpa using h
  have eo : okN v.k v.n v.s v.l.length = ((v.n == 0 || v.n == 1) && v.s.isEmpty && decide (v.l.length = 0)) := by rw [h]; rfl
  have ef : fitN v.k v.s v.l.length = true := by rw [h]; rfl
  rw [eo, ef]
  refine bxN hb1 ?_
  refine ⟨fun b H' => H1 = H' ∧ b = (v.n == 0 || v.n == 1), ?_, ?_⟩
  ·rw [hn]
   refine ift.of (fun h => ⟨rfl, by rw [h]; rfl⟩) (fun h => ?_)
   refine bxN hb1 ⟨rfl, ?_⟩
   rw [h, hn]; rfl
  rintro _ _ ⟨rfl, rfl⟩
  refine ⟨fun b H' => H1 = H' ∧ b = ((v.n == 0 || v.n == 1) && v.s.isEmpty), ?_, ?_⟩
  ·refine ift.of (fun h => ?_) (fun h => ⟨rfl, by rw [h]; rfl⟩)
   refine bxS hb1 ⟨rfl, ?_⟩
   rw [h, ht, sEmpty]; rfl
  rintro _ _ ⟨rfl, rfl⟩
  refine ⟨fun b H' => H1 = H' ∧ b = ((v.n == 0 || v.n == 1) && v.s.isEmpty && decide (v.l.length = 0)), ?_, ?_⟩
  ·refine ift.of (fun h => ?_) (fun h => ⟨rfl, by rw [h]; rfl⟩)
   refine bxL hb1 ⟨rfl, ?_⟩
   rw [h]; exact lenZ hl 0
  rintro _ _ ⟨rfl, rfl⟩
  exact ⟨rfl, rfl, fun _ => rfl⟩
 have g1 : v.k ≠ 1 := by simpa using h
 refine ift.of (fun h => ?_) (fun h => ?_)
 ·have h : v.k = 2 := by simpa using h
  have eo : okN v.k v.n v.s v.l.length = (v.s.isEmpty && decide (v.l.length = 0)) := by rw [h]; rfl
  have ef : fitN v.k v.s v.l.length = true := by rw [h]; rfl
  rw [eo, ef]
  refine bxS hb1 ?_
  refine ⟨fun b H' => H1 = H' ∧ b = (v.s.isEmpty && decide (v.l.length = 0)), ?_, ?_⟩
  ·rw [ht, sEmpty]
   refine ift.of (fun h => ?_) (fun h => ⟨rfl, by rw [h]; rfl⟩)
   refine bxL hb1 ⟨rfl, ?_⟩
   rw [h]; exact lenZ hl 0
  rintro _ _ ⟨rfl, rfl⟩
  exact ⟨rfl, rfl, fun _ => rfl⟩
 have g2 : v.k ≠ 2 := by simpa using h
 refine ift.of (fun h => ?_) (fun h => ?_)
 ·have h : v.k = 3 := by simpa using h
  have eo : okN v.k v.n v.s v.l.length = (numS v.s && v.n == 0 && decide (v.l.length = 0)) := by rw [h]; rfl
  have ef : fitN v.k v.s v.l.length = decide (digits v.s ≤ 200) := by rw [h]; rfl
  rw [eo, ef]
  refine bxS hb1 ?_
  rw [ht]
  refine Qfi hbs ?_
  refine ⟨fun b H' => H1 = H' ∧ b = (numS v.s && v.n == 0), ?_, ?_⟩
  ·refine ift.of (fun h => ?_) (fun h => ⟨rfl, by rw [h]; rfl⟩)
   refine bxN hb1 ⟨rfl, ?_⟩
   rw [h, hn]; rfl
  rintro _ _ ⟨rfl, rfl⟩
  refine ⟨fun b H' => H1 = H' ∧ b = (numS v.s && v.n == 0 && decide (v.l.length = 0)), ?_, ?_⟩
  ·refine ift.of (fun h => ?_) (fun h => ⟨rfl, by rw [h]; rfl⟩)
   refine bxL hb1 ⟨rfl, ?_⟩
   rw [h]; exact lenZ hl 0
  rintro _ _ ⟨rfl, rfl⟩
  refine ⟨rfl, rfl, fun hh => ?_⟩
  dsimp only at hh ⊢
  simp only [Bool.and_eq_true] at hh
  rw [hh.1.1, if_pos rfl, decide_eq_decide]; omega
 have g3 : v.k ≠ 3 := by simpa using h
 refine ift.of (fun h => ?_) (fun h => ?_)
 ·have h : v.k = 4 := by simpa using h
  have eo : okN v.k v.n v.s v.l.length = (v.n == 0 && decide (v.l.length = 0)) := by rw [h]; rfl
  have ef : fitN v.k v.s v.l.length = decide (v.s.length ≤ 4096) := by rw [h]; rfl
  rw [eo, ef]
  have ed : decide ((v.s.length : Int) ≤ 4096) = decide (v.s.length ≤ 4096) := by rw [decide_eq_decide]; omega
  refine ⟨fun b H' => H1 = H' ∧ b = ((v.n == 0 && decide (v.l.length = 0)), decide (v.s.length ≤ 4096)), ?_, ?_⟩
  ·refine ⟨H1, Heap.le.refl _, bxN hb1 (bxS hb1 ?_)⟩
   rw [hn, ht, ed]
   refine ift.of (fun h => ?_) (fun h => ⟨rfl, by rw [h]; rfl⟩)
   refine bxL hb1 ⟨rfl, ?_⟩
   rw [h, show ((x.L.len : Int) == 0) = decide (v.l.length = 0) from lenZ hl 0]; rfl
  rintro _ _ ⟨rfl, rfl⟩
  exact ⟨rfl, rfl, fun _ => rfl⟩
 have g4 : v.k ≠ 4 := by simpa using h
 refine ift.of (fun h => ?_) (fun h => ?_)
 ·have h : v.k = 5 := by simpa using h
  have eo : okN v.k v.n v.s v.l.length = (v.n == 0 && v.s.isEmpty && decide (v.l.length ≠ 1)) := by rw [h]; rfl
  have ef : fitN v.k v.s v.l.length = decide (v.l.length ≤ 16) := by rw [h]; rfl
  rw [eo, ef]
  have ed : decide ((x.L.len : Int) ≤ 16) = decide (v.l.length ≤ 16) := by rw [decide_eq_decide]; omega
  refine ⟨fun b H' => H1 = H' ∧ b = ((v.n == 0 && v.s.isEmpty && decide (v.l.length ≠ 1)), decide (v.l.length ≤ 16)), ?_, ?_⟩
  ·refine ⟨H1, Heap.le.refl _, bxN hb1 (bxL hb1 ?_)⟩
   rw [hn, ed]
   refine ift.of (fun h => ?_) (fun h => ⟨rfl, by rw [h]; rfl⟩)
   refine bxS hb1 ?_
   rw [ht, sEmpty]
   refine ift.of (fun h2 => ?_) (fun h2 => ⟨rfl, by rw [h2]; simp⟩)
   refine bxL hb1 ⟨rfl, ?_⟩
   rw [h, h2, bne, show ((x.L.len : Int) == 1) = decide (v.l.length = 1) from lenZ hl 1, decide_not]; rfl
  rintro _ _ ⟨rfl, rfl⟩
  exact ⟨rfl, rfl, fun _ => rfl⟩
 have g5 : v.k ≠ 5 := by simpa using h
 refine ift.of (fun h => ?_) (fun h => ?_)
 ·have h : v.k = 6 := by simpa using h
  have eo : okN v.k v.n v.s v.l.length = (v.n == 0 && namesS v.s) := by rw [h]; rfl
  have ef : fitN v.k v.s v.l.length = decide (v.l.length ≤ 8) := by rw [h]; rfl
  rw [eo, ef]
  have ed : decide ((x.L.len : Int) ≤ 8) = decide (v.l.length ≤ 8) := by rw [decide_eq_decide]; omega
  refine bxS hb1 ?_
  rw [ht]
  refine Qh7 hbs ?_
  have key : ∀ (a b : Str) (two : Bool), a.length ≤ 140737488355328 → b.length ≤ 140737488355328 → namesS v.s = (if two then nameS a && nameS b else nameS a && !decide (v.s = trueS) && !decide (v.s = falseS)) →
   jn (α := Bool × Bool) (fun x118 H119 => H1 = H119 ∧ x118.1 = (v.n == 0 && namesS v.s) ∧ (x118.1 = true → x118.2 = decide (v.l.length ≤ 8)))
    (fun J117 => dr H1 fun Hs121 =>
    ldI Hs121 .i64 ((b1, 0).1, (b1, 0).2 + 1) fun x123 =>
    ldL Hs121 ((b1, 0).1, (b1, 0).2 + 3) fun x125 =>
    ift ((x123 : Int) == 0)
    (Qbn C a (fun r129 H130 =>
    Heap.le Hs121 H130 ∧
    ift r129
    (ift two
    (Qbn C b (fun r134 H135 =>
    Heap.le Hs121 H135 ∧
    ift r134
    (J117 (true, (decide (((Sl.len x125 : Int) : Int) ≤ 8))) H135)
    (ift (!two)
    (ldS Hs121 ((b1, 0).1, (b1, 0).2 + 2) fun x138 =>
    ift (!(x138 == ([116, 114, 117, 101] : Str)))
    (ldS Hs121 ((b1, 0).1, (b1, 0).2 + 2) fun x141 =>
    J117 ((!(x141 == ([102, 97, 108, 115, 101] : Str))), (decide (((Sl.len x125 : Int) : Int) ≤ 8))) H135)
    (J117 (false, (decide (((Sl.len x125 : Int) : Int) ≤ 8))) H135))
    (J117 (false, (decide (((Sl.len x125 : Int) : Int) ≤ 8))) H135))) H130)
    (ift (!two)
    (ldS Hs121 ((b1, 0).1, (b1, 0).2 + 2) fun x144 =>
    ift (!(x144 == ([116, 114, 117, 101] : Str)))
    (ldS Hs121 ((b1, 0).1, (b1, 0).2 + 2) fun x147 =>
    J117 ((!(x147 == ([102, 97, 108, 115, 101] : Str))), (decide (((Sl.len x125 : Int) : Int) ≤ 8))) H130)
    (J117 (false, (decide (((Sl.len x125 : Int) : Int) ≤ 8))) H130))
    (J117 (false, (decide (((Sl.len x125 : Int) : Int) ≤ 8))) H130)))
    (J117 (false, (decide (((Sl.len x125 : Int) : Int) ≤ 8))) H130)) H1)
    (J117 (false, (decide (((Sl.len x125 : Int) : Int) ≤ 8))) H1)) := by
   intro a b two ha hb hns
   refine ⟨fun y H' => H1 = H' ∧ y = ((v.n == 0 && namesS v.s), decide (v.l.length ≤ 8)), ?_, ?_⟩
   ·refine ⟨H1, Heap.le.refl _, bxN hb1 (bxL hb1 ?_)⟩
    rw [hn, ed]
    refine ift.of (fun h => ?_) (fun h => ⟨rfl, by rw [h]; rfl⟩)
    refine Qei ha ⟨Heap.le.refl _, ?_⟩
    rw [h, hns]
    refine ift.of (fun h2 => ?_) (fun h2 => ⟨rfl, by rw [h2]; cases two <;> rfl⟩)
    rw [h2]
    have eq : ∀ t : Str, (v.s == t) = decide (v.s = t) := fun t => by rw [Bool.eq_iff_iff]; simp
    cases two with
    | true =>
     refine QaU rfl ?_
     refine Qei hb ⟨Heap.le.refl _, ?_⟩
     exact ift.of (fun h3 => ⟨rfl, by rw [h3]; rfl⟩) (fun h3 => QA rfl ⟨rfl, by rw [h3]; rfl⟩)
    | false =>
     refine QA rfl (QaU rfl ?_)
     refine bxS hb1 ?_
     rw [ht, show (v.s == ([116, 114, 117, 101] : Str)) = decide (v.s = trueS) from eq _]
     refine ift.of (fun h3 => ?_) (fun h3 => ⟨rfl, ?_⟩)
     ·refine bxS hb1 ⟨rfl, ?_⟩
      rw [ht, show (v.s == ([102, 97, 108, 115, 101] : Str)) = decide (v.s = falseS) from eq _, h3]; rfl
     ·rw [h3]; rfl
   ·rintro _ _ ⟨rfl, rfl⟩
    exact ⟨rfl, rfl, fun _ => rfl⟩
  have hc := Qig v.s
  cases hcd : cutD v.s with
  | none =>
   rw [hcd] at hc
   exact key _ _ _ hbs (by simp) hc
  | some p =>
   obtain ⟨a, b⟩ := p
   rw [hcd] at hc
   have hlen : a.length ≤ v.s.length ∧ b.length ≤ v.s.length := by
    by_cases hm : (46 : UInt8) ∈ v.s
    ·obtain ⟨a', b', e1, e2⟩ := Qht _ hm
     have := Qg5 a' b' e2
     rw [← e1, hcd] at this
     injection this with this; injection this with h1 h2
     subst h1; subst h2
     rw [e1]; simp; omega
    ·rw [Qg6 _ hm] at hcd; cases hcd
   exact key _ _ _ (by omega) (by omega) hc
 have g6 : v.k ≠ 6 := by simpa using h
 have eo : okN v.k v.n v.s v.l.length = false := by unfold okN; rw [if_neg g1, if_neg g2, if_neg g3, if_neg g4, if_neg g5, if_neg g6]
 rw [eo]
 exact ⟨rfl, rfl, fun hh => by cases hh⟩
theorem Qcw {v : V} {x : TV} {H : Heap} {K : Int → Heap → Prop} (hv : VIs H v x) (hB : VB v) (k : K (checkV v) H) : Qah C x K H := by
 apply Qah.gh
 apply Qfr
 unfold Qdv
 intro b1 n1
 have hb1 : (H.put b1 (.row (Qb.c x))) b1 = some (true, .row (Qb.c x)) := Heap.put_same ..
 have hle1 := Heap.le_put n1 (g := .row (Qb.c x)) (m := true)
 generalize H.put b1 (.row (Qb.c x)) = H1 at *
 unfold checkV at k
 refine bxV hb1 (QfE (m := 65) (hv.le hle1) hB (by omega) fun r h0 h1 h2 => ?_)
 refine ift.of (fun h => ?_) (fun h => ?_)
 ·have h := of_decide_eq_true h
  rw [if_pos (by omega)] at k
  exact ⟨H, Gh.le hle1, k⟩
 have h := of_decide_eq_false h
 rw [if_neg (by omega)] at k
 refine bxV hb1 (QjI (hv.le hle1) hB fun g hg => ?_)
 refine ift.of (fun h => ?_) (fun h => ?_)
 ·have h : formV v = false := by simpa using h
  rw [if_pos h] at k
  exact ⟨H, Gh.le hle1, k⟩
 have hf : formV v = true := by simpa using h
 rw [if_neg (by rw [hf]; decide)] at k
 rw [hg hf]
 refine ift.of (fun h => ?_) (fun h => ?_)
 ·have h : fitsV v = false := by simpa using h
  rw [if_pos h] at k
  exact ⟨H, Gh.le hle1, k⟩
 have hf : fitsV v = true := by simpa using h
 rw [if_neg (by rw [hf]; decide)] at k
 exact ⟨H, Gh.le hle1, k⟩
end
end
end Sx
end
