/-
  Texts of this family, one behind the other: Sh3, Sh4.
-/
import Derived.Test.YtnomkabppjlbfaaGreatDoorAQ2
noncomputable section
set_option linter.unusedVariables false
set_option linter.unusedSimpArgs false
set_option maxRecDepth 10000
namespace Sx
section
set_option maxRecDepth 100000
open Go Go.Proofs
def Qls (C : Ctx) (p_m : Qk) (K : Int → Heap → Prop) (H : Heap) : Prop :=
 nw (Qk.c p_m) (fun b1 H2 =>
 dr H2 fun Hs3 =>
 ldL Hs3 ((b1, 0).1, (b1, 0).2 + 2) fun x5 =>
 ldL Hs3 ((b1, 0).1, (b1, 0).2 + 3) fun x7 =>
 ldL Hs3 ((b1, 0).1, (b1, 0).2 + 4) fun x9 =>
 ldL Hs3 ((b1, 0).1, (b1, 0).2 + 5) fun x11 =>
 QV C x5 (.func (.func 114) (List.toArray []) (List.toArray []) : Value) (fun r14 H15 =>
 Heap.le Hs3 H15 ∧
 QY C x7 (.func (.func 120) (List.toArray []) (List.toArray []) : Value) (fun r17 H18 =>
 Heap.le Hs3 H18 ∧
 Q5 C x9 (.func (.func 122) (List.toArray []) (List.toArray []) : Value) (fun r20 H21 =>
 Heap.le Hs3 H21 ∧
 Q0 C x11 (.func (.func 127) (List.toArray []) (List.toArray []) : Value) (fun r23 H24 =>
 Heap.le Hs3 H24 ∧
 K (max4 r14 r17 r20 r23) H24) H21) H18) H15) H2) H
theorem Qoc (C p_m K H) (h : Qls C p_m K H) : Qen C p_m K H := by
 refine Ye Tryz.func45 rfl Tryz.ntmps45 [(0, .agg (Qk.c p_m).toArray)] (Zo (GL.box (v := .agg (Qk.c p_m).toArray) (cs := Qk.c p_m) h trivial rfl rfl rfl ?_))
 intro b1 H2 h
 refine Za (GL.nil (GC.seq ?_))
 obtain ⟨Hs3, hle4, h⟩ := h
 refine GC.any (Hs := Hs3) (by kernel_rfl) hle4 (Zp 0 rfl Yf ?_)
 obtain ⟨x5, v6, h⟩ := h
 refine Zp 1 rfl (Yo v6) (Zp 3 rfl Yf ?_)
 obtain ⟨x7, v8, h⟩ := h
 refine Zp 4 rfl (Yo v8) (Zp 6 rfl Yf ?_)
 obtain ⟨x9, v10, h⟩ := h
 refine Zp 7 rfl (Yo v10) (Zp 9 rfl Yf ?_)
 obtain ⟨x11, v12, h⟩ := h
 refine Zp 10 rfl (Yo v12) (GA.eff 2 rfl (by kernel_rfl) (Zc h Qgs ?_))
 rintro _ H15 ⟨r14, rfl, h⟩
 obtain ⟨hle13, h⟩ := h
 refine GA.back hle13 (GA.eff 5 rfl (by kernel_rfl) (Zc h QgH ?_))
 rintro _ H18 ⟨r17, rfl, h⟩
 obtain ⟨hle16, h⟩ := h
 refine GA.back hle16 (GA.eff 8 rfl (by kernel_rfl) (Zc h QhD ?_))
 rintro _ H21 ⟨r20, rfl, h⟩
 obtain ⟨hle19, h⟩ := h
 refine GA.back hle19 (GA.eff 11 rfl (by kernel_rfl) (Zc h Qhh ?_))
 rintro _ H24 ⟨r23, rfl, h⟩
 obtain ⟨hle22, h⟩ := h
 refine GA.back hle22 (Zp 12 rfl (OV.max4 rfl rfl rfl rfl) (Zp 13 rfl Ya (GA.done (by kernel_rfl) (GL.nil ?_))))
 exact Y1 I3 ⟨(max4 r14 r17 r20 r23), rfl, h⟩
def Qlw (C : Ctx) (p_s : Str) (K : Bool → Heap → Prop) (H : Heap) : Prop :=
 jn (α := Bool) (fun b1 H8 =>
 jn (α := Bool) (fun b9 H16 =>
 jn (α := Bool) (fun b17 H23 =>
 jn (α := Bool) (fun b24 H32 =>
 K b24 H32)
 (fun J25 => ift b17
 (catOk ([32] : Str) p_s ∧
 catOk (([32] : Str) ++ p_s) ([32] : Str) ∧
 QgI C [32, 109, 111, 100, 117, 108, 101, 32, 105, 109, 112, 111, 114, 116, 32, 112, 117, 98, 32, 116, 121, 112, 101, 32, 105, 110, 112, 117, 116, 32, 114, 101, 108, 32, 110, 101, 118, 101, 114, 32, 110, 111, 116, 32, 97, 110, 100, 32, 111, 114, 32, 105, 102, 32, 116, 104, 101, 110, 32, 101, 108, 115, 101, 32, 116, 114, 117, 101, 32, 102, 97, 108, 115, 101, 32, 99, 111, 117, 110, 116, 32, 115, 117, 109, 32, 109, 105, 110, 32, 109, 97, 120, 32, 110, 101, 103, 32, 108, 101, 110, 32, 98, 105, 103, 32, 105, 110, 116, 32, 98, 111, 111, 108, 32, 116, 101, 120, 116, 32, 116, 117, 112, 108, 101, 32] ((([32] : Str) ++ p_s) ++ ([32] : Str)) (fun r30 H31 =>
 J25 (!r30) H31) H23)
 (J25 false H23)))
 (fun J18 => ift b9
 (Qh1 C p_s (fun r21 H22 =>
 J18 r21 H22) H16)
 (J18 false H16)))
 (fun J10 => ift b1
 (ixs p_s 0 fun c13 =>
 J10 (decide (((c13.toNat : Int) : Int) ≤ 122)) H8)
 (J10 false H8)))
 (fun J2 => ift (!(p_s == ([] : Str)))
 (ixs p_s 0 fun c5 =>
 J2 (decide (((c5.toNat : Int) : Int) ≥ 97)) H)
 (J2 false H))
theorem Qog (C p_s K H) (h : Qlw C p_s K H) : Qbb C p_s K H := by
 refine Ye Tryz.func46 rfl Tryz.ntmps46 [(0, sv p_s)] (Zo (Za (GL.nil (Zo (Zm (Zv (OV.sbin (a := p_s) (b := ([] : Str)) (v := .bool (!(p_s == ([] : Str)))) rfl rfl rfl) (Zm ?_)))))))
 obtain ⟨J2, h, hR3⟩ := h
 refine GL.cut (α := Bool) 4 J2 (fun b1 => [(9, .bool b1), (0, sv p_s)]) ?_ ?_
 rcases h.em with ⟨u4, h⟩ | ⟨u4, h⟩
 refine Zu u4 Ym ?_
 obtain ⟨c5, ha6, hb7, h⟩ := h
 refine Zu u4 (OV.indexStr rfl rfl rfl ha6 hb7) (Zu u4 (OV.ibin (v := .bool (decide (((c5.toNat : Int) : Int) ≥ 97))) rfl rfl rfl) (Zt u4 ?_))
 exact Yj I3 (decide (((c5.toNat : Int) : Int) ≥ 97)) h
 refine Zk u4 (Zk u4 (Zk u4 (Zn u4 ?_)))
 exact Yj I3 false h
 intro b1 H8 h
 replace h := hR3 b1 H8 h
 refine Zm ?_
 obtain ⟨J10, h, hR11⟩ := h
 refine GL.cut (α := Bool) 4 J10 (fun b9 => [(14, .bool b9), (0, sv p_s)]) ?_ ?_
 rcases h.em with ⟨u12, h⟩ | ⟨u12, h⟩
 refine Zu u12 Ym ?_
 obtain ⟨c13, ha14, hb15, h⟩ := h
 refine Zu u12 (OV.indexStr rfl rfl rfl ha14 hb15) (Zu u12 (OV.ibin (v := .bool (decide (((c13.toNat : Int) : Int) ≤ 122))) rfl rfl rfl) (Zt u12 ?_))
 exact Yj I3 (decide (((c13.toNat : Int) : Int) ≤ 122)) h
 refine Zk u12 (Zk u12 (Zk u12 (Zn u12 ?_)))
 exact Yj I3 false h
 intro b9 H16 h
 replace h := hR11 b9 H16 h
 refine Zm ?_
 obtain ⟨J18, h, hR19⟩ := h
 refine GL.cut (α := Bool) 3 J18 (fun b17 => [(18, .bool b17), (0, sv p_s)]) ?_ ?_
 rcases h.em with ⟨u20, h⟩ | ⟨u20, h⟩
 refine Zu u20 Ym (GL.call h (Yt u20) rfl Qln (vs := [sv p_s]) rfl ?_)
 rintro _ H22 ⟨r21, rfl, h⟩
 refine Zt u20 ?_
 exact Yj I3 r21 h
 refine Zk u20 (Zk u20 (Zn u20 ?_))
 exact Yj I3 false h
 intro b17 H23 h
 replace h := hR19 b17 H23 h
 refine Zm ?_
 obtain ⟨J25, h, hR26⟩ := h
 refine GL.cut (α := Bool) 6 J25 (fun b24 => [(25, .bool b24)]) ?_ ?_
 rcases h.em with ⟨u27, h⟩ | ⟨u27, h⟩
 refine Zu u27 Ym ?_
 obtain ⟨hl28, h⟩ := h
 refine Zu u27 (OV.cat (a := ([32] : Str)) (b := p_s) rfl rfl hl28) ?_
 obtain ⟨hl29, h⟩ := h
 refine Zu u27 (OV.cat (a := (([32] : Str) ++ p_s)) (b := ([32] : Str)) rfl rfl hl29) (GL.call h (Yt u27) rfl Qkt (vs := [sv [32, 109, 111, 100, 117, 108, 101, 32, 105, 109, 112, 111, 114, 116, 32, 112, 117, 98, 32, 116, 121, 112, 101, 32, 105, 110, 112, 117, 116, 32, 114, 101, 108, 32, 110, 101, 118, 101, 114, 32, 110, 111, 116, 32, 97, 110, 100, 32, 111, 114, 32, 105, 102, 32, 116, 104, 101, 110, 32, 101, 108, 115, 101, 32, 116, 114, 117, 101, 32, 102, 97, 108, 115, 101, 32, 99, 111, 117, 110, 116, 32, 115, 117, 109, 32, 109, 105, 110, 32, 109, 97, 120, 32, 110, 101, 103, 32, 108, 101, 110, 32, 98, 105, 103, 32, 105, 110, 116, 32, 98, 111, 111, 108, 32, 116, 101, 120, 116, 32, 116, 117, 112, 108, 101, 32], sv ((([32] : Str) ++ p_s) ++ ([32] : Str))]) rfl ?_)
 rintro _ H31 ⟨r30, rfl, h⟩
 refine Zu u27 (OV.not rfl) (Zt u27 ?_)
 exact Yj I3 (!r30) h
 refine Zk u27 (Zk u27 (Zk u27 (Zk u27 (Zk u27 (Zn u27 ?_)))))
 exact Yj I3 false h
 intro b24 H32 h
 replace h := hR26 b24 H32 h
 refine Za (GL.nil ?_)
 exact Y1 I3 ⟨b24, rfl, h⟩
def Qfg (C : Ctx) (p_l : Sl) (p_is : Value) (K : Bool → Heap → Prop) (H : Heap) : Prop :=
 (Value.cells p_is = #[p_is]) ∧ nw ([p_is]) (fun b1 H2 =>
 QaN C p_l (.func (.func 131) (List.toArray []) (List.toArray [pv (some (b1, 0))]) : Value) (fun r4 H5 =>
 K (!r4) H5) H2) H
theorem Qix (C p_l p_is K H) (h : Qfg C p_l p_is K H) : Qaj C p_l p_is K H := by
 refine Ye Tryz.func47 rfl Tryz.ntmps47 [(0, slv p_l), (1, p_is)] (Zo ?_)
 obtain ⟨u3, h⟩ := h
 refine GL.box (v := p_is) (cs := [p_is]) h trivial rfl rfl u3 ?_
 intro b1 H2 h
 refine Za (GL.nil (Zo (Zm (Zv (OV.makeFunc (vs := []) (us := [pv (some (b1, 0))]) rfl rfl) (Zc h Qcu ?_)))))
 rintro _ H5 ⟨r4, rfl, h⟩
 refine Zv (OV.not rfl) (Za (GL.nil ?_))
 exact Y1 I3 ⟨(!r4), rfl, h⟩
def Qje (C : Ctx) (p_x : Qj) (K : Bool → Heap → Prop) (H : Heap) : Prop :=
 nw (Qj.c p_x) (fun b1 H2 =>
 ldS H2 ((b1, 0).1, (b1, 0).2 + 2) fun x3 =>
 Qbb C x3 (fun r5 H6 =>
 K r5 H6) H2) H
theorem QlU (C p_x K H) (h : Qje C p_x K H) : QcV C p_x K H := by
 refine Ye Tryz.func48 rfl Tryz.ntmps48 [(0, .agg (Qj.c p_x).toArray)] (Zo (GL.box (v := .agg (Qj.c p_x).toArray) (cs := Qj.c p_x) h trivial rfl rfl rfl ?_))
 intro b1 H2 h
 refine Za (GL.nil (Zo (Zf (Yl h fun x3 h => ?_))))
 refine Zc h Qbm ?_
 rintro _ H6 ⟨r5, rfl, h⟩
 refine Za (GL.nil ?_)
 exact Y1 I3 ⟨r5, rfl, h⟩
def Qe5 (C : Ctx) (p_l : Sl) (p_is : Value) (K : Bool → Heap → Prop) (H : Heap) : Prop :=
 (Value.cells p_is = #[p_is]) ∧ nw ([p_is]) (fun b1 H2 =>
 QaD C p_l (.func (.func 133) (List.toArray []) (List.toArray [pv (some (b1, 0))]) : Value) (fun r4 H5 =>
 K (!r4) H5) H2) H
theorem QhT (C p_l p_is K H) (h : Qe5 C p_l p_is K H) : Qae C p_l p_is K H := by
 refine Ye Tryz.func49 rfl Tryz.ntmps49 [(0, slv p_l), (1, p_is)] (Zo ?_)
 obtain ⟨u3, h⟩ := h
 refine GL.box (v := p_is) (cs := [p_is]) h trivial rfl rfl u3 ?_
 intro b1 H2 h
 refine Za (GL.nil (Zo (Zm (Zv (OV.makeFunc (vs := []) (us := [pv (some (b1, 0))]) rfl rfl) (Zc h Qce ?_)))))
 rintro _ H5 ⟨r4, rfl, h⟩
 refine Zv (OV.not rfl) (Za (GL.nil ?_))
 exact Y1 I3 ⟨(!r4), rfl, h⟩
def Qjn (C : Ctx) (p_t : Qf) (K : Bool → Heap → Prop) (H : Heap) : Prop :=
 nw (Qf.c p_t) (fun b1 H2 =>
 ldS H2 ((b1, 0).1, (b1, 0).2 + 3) fun x3 =>
 Qbb C x3 (fun r5 H6 =>
 jn (α := Bool) (fun b7 H13 =>
 jn (α := Bool) (fun b14 H22 =>
 jn (α := Bool) (fun b23 H29 =>
 jn (α := Bool) (fun b30 H36 =>
 jn (α := Bool) (fun b37 H45 =>
 K b37 H45)
 (fun J38 => ift b30
 (ldL H36 ((b1, 0).1, (b1, 0).2 + 5) fun x41 =>
 Qad C x41 (.func (.func 137) (List.toArray []) (List.toArray []) : Value) (fun r43 H44 =>
 J38 r43 H44) H36)
 (J38 false H36)))
 (fun J31 => ift b23
 (ldL H29 ((b1, 0).1, (b1, 0).2 + 5) fun x34 =>
 J31 (decide (((Sl.len x34 : Int) : Int) ≤ 16)) H29)
 (J31 false H29)))
 (fun J24 => ift b14
 (ldL H22 ((b1, 0).1, (b1, 0).2 + 5) fun x27 =>
 J24 (decide (((Sl.len x27 : Int) : Int) ≥ 1)) H22)
 (J24 false H22)))
 (fun J15 => ift b7
 (ldL H13 ((b1, 0).1, (b1, 0).2 + 4) fun x18 =>
 QaE C x18 (.func (.func 135) (List.toArray []) (List.toArray []) : Value) (fun r20 H21 =>
 J15 r20 H21) H13)
 (J15 false H13)))
 (fun J8 => ift r5
 (ldL H6 ((b1, 0).1, (b1, 0).2 + 4) fun x11 =>
 J8 (decide (((Sl.len x11 : Int) : Int) ≤ 8)) H6)
 (J8 false H6))) H2) H
theorem Ql3 (C p_t K H) (h : Qjn C p_t K H) : Qc2 C p_t K H := by
 refine Ye Tryz.func50 rfl Tryz.ntmps50 [(0, .agg (Qf.c p_t).toArray)] (Zo (GL.box (v := .agg (Qf.c p_t).toArray) (cs := Qf.c p_t) h trivial rfl rfl rfl ?_))
 intro b1 H2 h
 refine Za (GL.nil (Zo (Zf (Yl h fun x3 h => ?_))))
 refine Zc h Qbm ?_
 rintro _ H6 ⟨r5, rfl, h⟩
 refine Zm ?_
 obtain ⟨J8, h, hR9⟩ := h
 refine GL.cut (α := Bool) 5 J8 (fun b7 => [(11, .bool b7), (1, pv (some (b1, 0)))]) ?_ ?_
 rcases h.em with ⟨u10, h⟩ | ⟨u10, h⟩
 refine Zu u10 Yf ?_
 obtain ⟨x11, v12, h⟩ := h
 refine Zu u10 (Yo v12) (Zu u10 (OV.lenSl rfl rfl) (Zu u10 (OV.ibin (v := .bool (decide (((Sl.len x11 : Int) : Int) ≤ 8))) rfl rfl rfl) (Zt u10 ?_)))
 exact Yj I3 (decide (((Sl.len x11 : Int) : Int) ≤ 8)) h
 refine Zk u10 (Zk u10 (Zk u10 (Zk u10 (Zn u10 ?_))))
 exact Yj I3 false h
 intro b7 H13 h
 replace h := hR9 b7 H13 h
 refine Zm ?_
 obtain ⟨J15, h, hR16⟩ := h
 refine GL.cut (α := Bool) 4 J15 (fun b14 => [(16, .bool b14), (1, pv (some (b1, 0)))]) ?_ ?_
 rcases h.em with ⟨u17, h⟩ | ⟨u17, h⟩
 refine Zu u17 Yf ?_
 obtain ⟨x18, v19, h⟩ := h
 refine Zu u17 (Yo v19) (GL.call h (Yt u17) rfl QgM (vs := [slv x18, .func (.func 135) (List.toArray []) (List.toArray [])]) rfl ?_)
 rintro _ H21 ⟨r20, rfl, h⟩
 refine Zt u17 ?_
 exact Yj I3 r20 h
 refine Zk u17 (Zk u17 (Zk u17 (Zn u17 ?_)))
 exact Yj I3 false h
 intro b14 H22 h
 replace h := hR16 b14 H22 h
 refine Zm ?_
 obtain ⟨J24, h, hR25⟩ := h
 refine GL.cut (α := Bool) 5 J24 (fun b23 => [(22, .bool b23), (1, pv (some (b1, 0)))]) ?_ ?_
 rcases h.em with ⟨u26, h⟩ | ⟨u26, h⟩
 refine Zu u26 Yf ?_
 obtain ⟨x27, v28, h⟩ := h
 refine Zu u26 (Yo v28) (Zu u26 (OV.lenSl rfl rfl) (Zu u26 (OV.ibin (v := .bool (decide (((Sl.len x27 : Int) : Int) ≥ 1))) rfl rfl rfl) (Zt u26 ?_)))
 exact Yj I3 (decide (((Sl.len x27 : Int) : Int) ≥ 1)) h
 refine Zk u26 (Zk u26 (Zk u26 (Zk u26 (Zn u26 ?_))))
 exact Yj I3 false h
 intro b23 H29 h
 replace h := hR25 b23 H29 h
 refine Zm ?_
 obtain ⟨J31, h, hR32⟩ := h
 refine GL.cut (α := Bool) 5 J31 (fun b30 => [(28, .bool b30), (1, pv (some (b1, 0)))]) ?_ ?_
 rcases h.em with ⟨u33, h⟩ | ⟨u33, h⟩
 refine Zu u33 Yf ?_
 obtain ⟨x34, v35, h⟩ := h
 refine Zu u33 (Yo v35) (Zu u33 (OV.lenSl rfl rfl) (Zu u33 (OV.ibin (v := .bool (decide (((Sl.len x34 : Int) : Int) ≤ 16))) rfl rfl rfl) (Zt u33 ?_)))
 exact Yj I3 (decide (((Sl.len x34 : Int) : Int) ≤ 16)) h
 refine Zk u33 (Zk u33 (Zk u33 (Zk u33 (Zn u33 ?_))))
 exact Yj I3 false h
 intro b30 H36 h
 replace h := hR32 b30 H36 h
 refine Zm ?_
 obtain ⟨J38, h, hR39⟩ := h
 refine GL.cut (α := Bool) 4 J38 (fun b37 => [(33, .bool b37)]) ?_ ?_
 rcases h.em with ⟨u40, h⟩ | ⟨u40, h⟩
 refine Zu u40 Yf ?_
 obtain ⟨x41, v42, h⟩ := h
 refine Zu u40 (Yo v42) (GL.call h (Yt u40) rfl Qia (vs := [slv x41, .func (.func 137) (List.toArray []) (List.toArray [])]) rfl ?_)
 rintro _ H44 ⟨r43, rfl, h⟩
 refine Zt u40 ?_
 exact Yj I3 r43 h
 refine Zk u40 (Zk u40 (Zk u40 (Zn u40 ?_)))
 exact Yj I3 false h
 intro b37 H45 h
 replace h := hR39 b37 H45 h
 refine Za (GL.nil ?_)
 exact Y1 I3 ⟨b37, rfl, h⟩
def Qfh (C : Ctx) (p_l : Sl) (p_is : Value) (K : Bool → Heap → Prop) (H : Heap) : Prop :=
 (Value.cells p_is = #[p_is]) ∧ nw ([p_is]) (fun b1 H2 =>
 QaO C p_l (.func (.func 139) (List.toArray []) (List.toArray [pv (some (b1, 0))]) : Value) (fun r4 H5 =>
 K (!r4) H5) H2) H
theorem Qiy (C p_l p_is K H) (h : Qfh C p_l p_is K H) : Qak C p_l p_is K H := by
 refine Ye Tryz.func51 rfl Tryz.ntmps51 [(0, slv p_l), (1, p_is)] (Zo ?_)
 obtain ⟨u3, h⟩ := h
 refine GL.box (v := p_is) (cs := [p_is]) h trivial rfl rfl u3 ?_
 intro b1 H2 h
 refine Za (GL.nil (Zo (Zm (Zv (OV.makeFunc (vs := []) (us := [pv (some (b1, 0))]) rfl rfl) (Zc h Qcv ?_)))))
 rintro _ H5 ⟨r4, rfl, h⟩
 refine Zv (OV.not rfl) (Za (GL.nil ?_))
 exact Y1 I3 ⟨(!r4), rfl, h⟩
def Qjf (C : Ctx) (p_x : Qh) (K : Bool → Heap → Prop) (H : Heap) : Prop :=
 nw (Qh.c p_x) (fun b1 H2 =>
 ldS H2 ((b1, 0).1, (b1, 0).2 + 4) fun x3 =>
 Qbb C x3 (fun r5 H6 =>
 jn (α := Bool) (fun b7 H15 =>
 K b7 H15)
 (fun J8 => ift r5
 (ldL H6 ((b1, 0).1, (b1, 0).2 + 5) fun x11 =>
 QbW C x11 true (fun r13 H14 =>
 J8 r13 H14) H6)
 (J8 false H6))) H2) H
theorem QlV (C p_x K H) (h : Qjf C p_x K H) : QcW C p_x K H := by
 refine Ye Tryz.func52 rfl Tryz.ntmps52 [(0, .agg (Qh.c p_x).toArray)] (Zo (GL.box (v := .agg (Qh.c p_x).toArray) (cs := Qh.c p_x) h trivial rfl rfl rfl ?_))
 intro b1 H2 h
 refine Za (GL.nil (Zo (Zf (Yl h fun x3 h => ?_))))
 refine Zc h Qbm ?_
 rintro _ H6 ⟨r5, rfl, h⟩
 refine Zm ?_
 obtain ⟨J8, h, hR9⟩ := h
 refine GL.cut (α := Bool) 4 J8 (fun b7 => [(10, .bool b7)]) ?_ ?_
 rcases h.em with ⟨u10, h⟩ | ⟨u10, h⟩
 refine Zu u10 Yf ?_
 obtain ⟨x11, v12, h⟩ := h
 refine Zu u10 (Yo v12) (GL.call h (Yt u10) rfl QjS (vs := [slv x11, .bool true]) rfl ?_)
 rintro _ H14 ⟨r13, rfl, h⟩
 refine Zt u10 ?_
 exact Yj I3 r13 h
 refine Zk u10 (Zk u10 (Zk u10 (Zn u10 ?_)))
 exact Yj I3 false h
 intro b7 H15 h
 replace h := hR9 b7 H15 h
 refine Za (GL.nil ?_)
 exact Y1 I3 ⟨b7, rfl, h⟩
def Qke (C : Ctx) (p_l : Sl) (p_named : Bool) (K : Bool → Heap → Prop) (H : Heap) : Prop :=
 nw ([.bool p_named]) (fun b1 H2 =>
 jn (α := Bool) (fun b3 H9 =>
 K b3 H9)
 (fun J4 => ift (decide (((Sl.len p_l : Int) : Int) ≤ 8))
 (Q3 C p_l (.func (.func 141) (List.toArray []) (List.toArray [pv (some (b1, 0))]) : Value) (fun r7 H8 =>
 J4 r7 H8) H2)
 (J4 false H2))) H
theorem QmX (C p_l p_named K H) (h : Qke C p_l p_named K H) : QbW C p_l p_named K H := by
 refine Ye Tryz.func53 rfl Tryz.ntmps53 [(0, slv p_l), (1, .bool p_named)] (Zo (GL.box (v := .bool p_named) (cs := [.bool p_named]) h trivial rfl rfl rfl ?_))
 intro b1 H2 h
 refine Za (GL.nil (Zo (Zm (Zq (Zi (.bool (decide (((Sl.len p_l : Int) : Int) ≤ 8))) (Zm ?_))))))
 obtain ⟨J4, h, hR5⟩ := h
 refine GL.cut (α := Bool) 4 J4 (fun b3 => [(12, .bool b3)]) ?_ ?_
 rcases h.em with ⟨u6, h⟩ | ⟨u6, h⟩
 refine Zu u6 Ym (Zu u6 (OV.makeFunc (vs := []) (us := [pv (some (b1, 0))]) rfl rfl) (GL.call h (Yt u6) rfl QhA (vs := [slv p_l, .func (.func 141) (List.toArray []) (List.toArray [pv (some (b1, 0))])]) rfl ?_))
 rintro _ H8 ⟨r7, rfl, h⟩
 refine Zt u6 ?_
 exact Yj I3 r7 h
 refine Zk u6 (Zk u6 (Zk u6 (Zn u6 ?_)))
 exact Yj I3 false h
 intro b3 H9 h
 replace h := hR5 b3 H9 h
 refine Za (GL.nil ?_)
 exact Y1 I3 ⟨b3, rfl, h⟩
def Qf0 (C : Ctx) (p_l : Sl) (p_is : Value) (K : Bool → Heap → Prop) (H : Heap) : Prop :=
 (Value.cells p_is = #[p_is]) ∧ nw ([p_is]) (fun b1 H2 =>
 Qbk C p_l (.func (.func 144) (List.toArray []) (List.toArray [pv (some (b1, 0))]) : Value) (fun r4 H5 =>
 K (!r4) H5) H2) H
theorem Qjy (C p_l p_is K H) (h : Qf0 C p_l p_is K H) : Qal C p_l p_is K H := by
 refine Ye Tryz.func54 rfl Tryz.ntmps54 [(0, slv p_l), (1, p_is)] (Zo ?_)
 obtain ⟨u3, h⟩ := h
 refine GL.box (v := p_is) (cs := [p_is]) h trivial rfl rfl u3 ?_
 intro b1 H2 h
 refine Za (GL.nil (Zo (Zm (Zv (OV.makeFunc (vs := []) (us := [pv (some (b1, 0))]) rfl rfl) (Zc h Qdp ?_)))))
 rintro _ H5 ⟨r4, rfl, h⟩
 refine Zv (OV.not rfl) (Za (GL.nil ?_))
 exact Y1 I3 ⟨(!r4), rfl, h⟩
def Qly (C : Ctx) (p_r : Ql) (K : Bool → Heap → Prop) (H : Heap) : Prop :=
 nw (Ql.c p_r) (fun b1 H2 =>
 ldS H2 ((b1, 0).1, (b1, 0).2 + 2) fun x3 =>
 Qfo C x3 (fun r5 H6 =>
 jn (α := Bool) (fun b7 H13 =>
 jn (α := Bool) (fun b14 H22 =>
 jn (α := Bool) (fun b23 H31 =>
 jn (α := Bool) (fun b32 H40 =>
 jn (α := Bool) (fun b41 H49 =>
 K b41 H49)
 (fun J42 => ift b32
 (ldL H40 ((b1, 0).1, (b1, 0).2 + 4) fun x45 =>
 QaE C x45 (.func (.func 147) (List.toArray []) (List.toArray []) : Value) (fun r47 H48 =>
 J42 r47 H48) H40)
 (J42 false H40)))
 (fun J33 => ift b23
 (ldL H31 ((b1, 0).1, (b1, 0).2 + 5) fun x36 =>
 QR C x36 (.func (.func 59) (List.toArray []) (List.toArray []) : Value) (fun r38 H39 =>
 J33 r38 H39) H31)
 (J33 false H31)))
 (fun J24 => ift b14
 (ldL H22 ((b1, 0).1, (b1, 0).2 + 3) fun x27 =>
 QM C x27 (.func (.func 92) (List.toArray []) (List.toArray []) : Value) (fun r29 H30 =>
 J24 r29 H30) H22)
 (J24 false H22)))
 (fun J15 => ift b7
 (ldL H13 ((b1, 0).1, (b1, 0).2 + 4) fun x18 =>
 ldL H13 ((b1, 0).1, (b1, 0).2 + 3) fun x20 =>
 J15 (((Sl.len x18 : Int) : Int) == (Sl.len x20 : Int)) H13)
 (J15 false H13)))
 (fun J8 => ift r5
 (ldL H6 ((b1, 0).1, (b1, 0).2 + 3) fun x11 =>
 J8 (decide (((Sl.len x11 : Int) : Int) ≤ 8)) H6)
 (J8 false H6))) H2) H
theorem Qoi (C p_r K H) (h : Qly C p_r K H) : Qfp C p_r K H := by
 refine Ye Tryz.func55 rfl Tryz.ntmps55 [(0, .agg (Ql.c p_r).toArray)] (Zo (GL.box (v := .agg (Ql.c p_r).toArray) (cs := Ql.c p_r) h trivial rfl rfl rfl ?_))
 intro b1 H2 h
 refine Za (GL.nil (Zo (Zf (Yl h fun x3 h => ?_))))
 refine Zc h QgN ?_
 rintro _ H6 ⟨r5, rfl, h⟩
 refine Zm ?_
 obtain ⟨J8, h, hR9⟩ := h
 refine GL.cut (α := Bool) 5 J8 (fun b7 => [(11, .bool b7), (1, pv (some (b1, 0)))]) ?_ ?_
 rcases h.em with ⟨u10, h⟩ | ⟨u10, h⟩
 refine Zu u10 Yf ?_
 obtain ⟨x11, v12, h⟩ := h
 refine Zu u10 (Yo v12) (Zu u10 (OV.lenSl rfl rfl) (Zu u10 (OV.ibin (v := .bool (decide (((Sl.len x11 : Int) : Int) ≤ 8))) rfl rfl rfl) (Zt u10 ?_)))
 exact Yj I3 (decide (((Sl.len x11 : Int) : Int) ≤ 8)) h
 refine Zk u10 (Zk u10 (Zk u10 (Zk u10 (Zn u10 ?_))))
 exact Yj I3 false h
 intro b7 H13 h
 replace h := hR9 b7 H13 h
 refine Zm ?_
 obtain ⟨J15, h, hR16⟩ := h
 refine GL.cut (α := Bool) 8 J15 (fun b14 => [(20, .bool b14), (1, pv (some (b1, 0)))]) ?_ ?_
 rcases h.em with ⟨u17, h⟩ | ⟨u17, h⟩
 refine Zu u17 Yf ?_
 obtain ⟨x18, v19, h⟩ := h
 refine Zu u17 (Yo v19) (Zu u17 (OV.lenSl rfl rfl) (Zu u17 Yf ?_))
 obtain ⟨x20, v21, h⟩ := h
 refine Zu u17 (Yo v21) (Zu u17 (OV.lenSl rfl rfl) (Zu u17 (OV.ibin (v := .bool (((Sl.len x18 : Int) : Int) == (Sl.len x20 : Int))) rfl rfl rfl) (Zt u17 ?_)))
 exact Yj I3 (((Sl.len x18 : Int) : Int) == (Sl.len x20 : Int)) h
 refine Zk u17 (Zk u17 (Zk u17 (Zk u17 (Zk u17 (Zk u17 (Zk u17 (Zn u17 ?_)))))))
 exact Yj I3 false h
 intro b14 H22 h
 replace h := hR16 b14 H22 h
 refine Zm ?_
 obtain ⟨J24, h, hR25⟩ := h
 refine GL.cut (α := Bool) 4 J24 (fun b23 => [(25, .bool b23), (1, pv (some (b1, 0)))]) ?_ ?_
 rcases h.em with ⟨u26, h⟩ | ⟨u26, h⟩
 refine Zu u26 Yf ?_
 obtain ⟨x27, v28, h⟩ := h
 refine Zu u26 (Yo v28) (GL.call h (Yt u26) rfl Qd4 (vs := [slv x27, .func (.func 92) (List.toArray []) (List.toArray [])]) rfl ?_)
 rintro _ H30 ⟨r29, rfl, h⟩
 refine Zt u26 ?_
 exact Yj I3 r29 h
 refine Zk u26 (Zk u26 (Zk u26 (Zn u26 ?_)))
 exact Yj I3 false h
 intro b23 H31 h
 replace h := hR25 b23 H31 h
 refine Zm ?_
 obtain ⟨J33, h, hR34⟩ := h
 refine GL.cut (α := Bool) 4 J33 (fun b32 => [(30, .bool b32), (1, pv (some (b1, 0)))]) ?_ ?_
 rcases h.em with ⟨u35, h⟩ | ⟨u35, h⟩
 refine Zu u35 Yf ?_
 obtain ⟨x36, v37, h⟩ := h
 refine Zu u35 (Yo v37) (GL.call h (Yt u35) rfl QeZ (vs := [slv x36, .func (.func 59) (List.toArray []) (List.toArray [])]) rfl ?_)
 rintro _ H39 ⟨r38, rfl, h⟩
 refine Zt u35 ?_
 exact Yj I3 r38 h
 refine Zk u35 (Zk u35 (Zk u35 (Zn u35 ?_)))
 exact Yj I3 false h
 intro b32 H40 h
 replace h := hR34 b32 H40 h
 refine Zm ?_
 obtain ⟨J42, h, hR43⟩ := h
 refine GL.cut (α := Bool) 4 J42 (fun b41 => [(35, .bool b41)]) ?_ ?_
 rcases h.em with ⟨u44, h⟩ | ⟨u44, h⟩
 refine Zu u44 Yf ?_
 obtain ⟨x45, v46, h⟩ := h
 refine Zu u44 (Yo v46) (GL.call h (Yt u44) rfl QgM (vs := [slv x45, .func (.func 147) (List.toArray []) (List.toArray [])]) rfl ?_)
 rintro _ H48 ⟨r47, rfl, h⟩
 refine Zt u44 ?_
 exact Yj I3 r47 h
 refine Zk u44 (Zk u44 (Zk u44 (Zn u44 ?_)))
 exact Yj I3 false h
 intro b41 H49 h
 replace h := hR43 b41 H49 h
 refine Za (GL.nil ?_)
 exact Y1 I3 ⟨b41, rfl, h⟩
def QfG (C : Ctx) (p_l : Sl) (p_is : Value) (K : Bool → Heap → Prop) (H : Heap) : Prop :=
 (Value.cells p_is = #[p_is]) ∧ nw ([p_is]) (fun b1 H2 =>
 Qa4 C p_l (.func (.func 149) (List.toArray []) (List.toArray [pv (some (b1, 0))]) : Value) (fun r4 H5 =>
 K (!r4) H5) H2) H
theorem QiQ (C p_l p_is K H) (h : QfG C p_l p_is K H) : Qab C p_l p_is K H := by
 refine Ye Tryz.func56 rfl Tryz.ntmps56 [(0, slv p_l), (1, p_is)] (Zo ?_)
 obtain ⟨u3, h⟩ := h
 refine GL.box (v := p_is) (cs := [p_is]) h trivial rfl rfl u3 ?_
 intro b1 H2 h
 refine Za (GL.nil (Zo (Zm (Zv (OV.makeFunc (vs := []) (us := [pv (some (b1, 0))]) rfl rfl) (Zc h QcO ?_)))))
 rintro _ H5 ⟨r4, rfl, h⟩
 refine Zv (OV.not rfl) (Za (GL.nil ?_))
 exact Y1 I3 ⟨(!r4), rfl, h⟩
def Qjg (C : Ctx) (p_x : Qi) (K : Bool → Heap → Prop) (H : Heap) : Prop :=
 nw (Qi.c p_x) (fun b1 H2 =>
 ldS H2 ((b1, 0).1, (b1, 0).2 + 2) fun x3 =>
 Qbb C x3 (fun r5 H6 =>
 jn (α := Bool) (fun b7 H13 =>
 jn (α := Bool) (fun b14 H22 =>
 K b14 H22)
 (fun J15 => ift b7
 (ldL H13 ((b1, 0).1, (b1, 0).2 + 3) fun x18 =>
 QR C x18 (.func (.func 59) (List.toArray []) (List.toArray []) : Value) (fun r20 H21 =>
 J15 r20 H21) H13)
 (J15 false H13)))
 (fun J8 => ift r5
 (ldL H6 ((b1, 0).1, (b1, 0).2 + 3) fun x11 =>
 J8 (decide (((Sl.len x11 : Int) : Int) > 0)) H6)
 (J8 false H6))) H2) H
theorem QlW (C p_x K H) (h : Qjg C p_x K H) : QcX C p_x K H := by
 refine Ye Tryz.func57 rfl Tryz.ntmps57 [(0, .agg (Qi.c p_x).toArray)] (Zo (GL.box (v := .agg (Qi.c p_x).toArray) (cs := Qi.c p_x) h trivial rfl rfl rfl ?_))
 intro b1 H2 h
 refine Za (GL.nil (Zo (Zf (Yl h fun x3 h => ?_))))
 refine Zc h Qbm ?_
 rintro _ H6 ⟨r5, rfl, h⟩
 refine Zm ?_
 obtain ⟨J8, h, hR9⟩ := h
 refine GL.cut (α := Bool) 5 J8 (fun b7 => [(11, .bool b7), (1, pv (some (b1, 0)))]) ?_ ?_
 rcases h.em with ⟨u10, h⟩ | ⟨u10, h⟩
 refine Zu u10 Yf ?_
 obtain ⟨x11, v12, h⟩ := h
 refine Zu u10 (Yo v12) (Zu u10 (OV.lenSl rfl rfl) (Zu u10 (OV.ibin (v := .bool (decide (((Sl.len x11 : Int) : Int) > 0))) rfl rfl rfl) (Zt u10 ?_)))
 exact Yj I3 (decide (((Sl.len x11 : Int) : Int) > 0)) h
 refine Zk u10 (Zk u10 (Zk u10 (Zk u10 (Zn u10 ?_))))
 exact Yj I3 false h
 intro b7 H13 h
 replace h := hR9 b7 H13 h
 refine Zm ?_
 obtain ⟨J15, h, hR16⟩ := h
 refine GL.cut (α := Bool) 4 J15 (fun b14 => [(16, .bool b14)]) ?_ ?_
 rcases h.em with ⟨u17, h⟩ | ⟨u17, h⟩
 refine Zu u17 Yf ?_
 obtain ⟨x18, v19, h⟩ := h
 refine Zu u17 (Yo v19) (GL.call h (Yt u17) rfl QeZ (vs := [slv x18, .func (.func 59) (List.toArray []) (List.toArray [])]) rfl ?_)
 rintro _ H21 ⟨r20, rfl, h⟩
 refine Zt u17 ?_
 exact Yj I3 r20 h
 refine Zk u17 (Zk u17 (Zk u17 (Zn u17 ?_)))
 exact Yj I3 false h
 intro b14 H22 h
 replace h := hR16 b14 H22 h
 refine Za (GL.nil ?_)
 exact Y1 I3 ⟨b14, rfl, h⟩
def Qe3 (C : Ctx) (p_l : Sl) (p_is : Value) (K : Bool → Heap → Prop) (H : Heap) : Prop :=
 (Value.cells p_is = #[p_is]) ∧ nw ([p_is]) (fun b1 H2 =>
 QaC C p_l (.func (.func 151) (List.toArray []) (List.toArray [pv (some (b1, 0))]) : Value) (fun r4 H5 =>
 K (!r4) H5) H2) H
theorem QhR (C p_l p_is K H) (h : Qe3 C p_l p_is K H) : QR C p_l p_is K H := by
 refine Ye Tryz.func58 rfl Tryz.ntmps58 [(0, slv p_l), (1, p_is)] (Zo ?_)
 obtain ⟨u3, h⟩ := h
 refine GL.box (v := p_is) (cs := [p_is]) h trivial rfl rfl u3 ?_
 intro b1 H2 h
 refine Za (GL.nil (Zo (Zm (Zv (OV.makeFunc (vs := []) (us := [pv (some (b1, 0))]) rfl rfl) (Zc h Qcd ?_)))))
 rintro _ H5 ⟨r4, rfl, h⟩
 refine Zv (OV.not rfl) (Za (GL.nil ?_))
 exact Y1 I3 ⟨(!r4), rfl, h⟩
def Qjl (C : Ctx) (p_x : Qc) (K : Bool → Heap → Prop) (H : Heap) : Prop :=
 nw (Qc.c p_x) (fun b1 H2 =>
 ldI H2 .u8 ((b1, 0).1, (b1, 0).2 + 0) fun x3 =>
 jn (α := Bool) (fun x6 H7 =>
 ift x6
 (ldS H7 ((b1, 0).1, (b1, 0).2 + 3) fun x11 =>
 Qfo C x11 (fun r13 H14 =>
 jn (α := Bool) (fun b15 H21 =>
 jn (α := Bool) (fun b22 H30 =>
 K b22 H30)
 (fun J23 => ift b15
 (ldL H21 ((b1, 0).1, (b1, 0).2 + 4) fun x26 =>
 QM C x26 (.func (.func 152) (List.toArray []) (List.toArray []) : Value) (fun r28 H29 =>
 J23 r28 H29) H21)
 (J23 false H21)))
 (fun J16 => ift r13
 (ldL H14 ((b1, 0).1, (b1, 0).2 + 4) fun x19 =>
 J16 (decide (((Sl.len x19 : Int) : Int) ≤ 8)) H14)
 (J16 false H14))) H7)
 (ift ((x3 : Int) == 3)
 (ldS H7 ((b1, 0).1, (b1, 0).2 + 3) fun x32 =>
 jn (α := Bool) (fun b34 H40 =>
 jn (α := Bool) (fun b41 H56 =>
 K b41 H56)
 (fun J42 => ift b34
 (ldL H40 ((b1, 0).1, (b1, 0).2 + 4) fun x45 =>
 ixa x45 0 fun p47 =>
 ldT H40 Qa.c (p47.1, p47.2 + (0 : Int).toNat * 9) fun x52 =>
 QcE C x52 (fun r54 H55 =>
 J42 r54 H55) H40)
 (J42 false H40)))
 (fun J35 => ift (x32 == ([] : Str))
 (ldL H7 ((b1, 0).1, (b1, 0).2 + 4) fun x38 =>
 J35 (((Sl.len x38 : Int) : Int) == 1) H7)
 (J35 false H7)))
 (ift ((x3 : Int) == 4)
 (ldS H7 ((b1, 0).1, (b1, 0).2 + 3) fun x58 =>
 QeU C x58 (fun r60 H61 =>
 jn (α := Bool) (fun b62 H68 =>
 jn (α := Bool) (fun b69 H84 =>
 K b69 H84)
 (fun J70 => ift b62
 (ldL H68 ((b1, 0).1, (b1, 0).2 + 4) fun x73 =>
 ixa x73 0 fun p75 =>
 ldT H68 Qa.c (p75.1, p75.2 + (0 : Int).toNat * 9) fun x80 =>
 QcE C x80 (fun r82 H83 =>
 J70 r82 H83) H68)
 (J70 false H68)))
 (fun J63 => ift r60
 (ldL H61 ((b1, 0).1, (b1, 0).2 + 4) fun x66 =>
 J63 (((Sl.len x66 : Int) : Int) == 1) H61)
 (J63 false H61))) H7)
 (K false H7))))
 (fun J5 => ift ((x3 : Int) == 1)
 (J5 ((x3 : Int) == 1) H2)
 (J5 ((x3 : Int) == 2) H2))) H
theorem Ql1 (C p_x K H) (h : Qjl C p_x K H) : Qc0 C p_x K H := by
 refine Ye Tryz.func59 rfl Tryz.ntmps59 [(0, .agg (Qc.c p_x).toArray)] (Zo (GL.box (v := .agg (Qc.c p_x).toArray) (cs := Qc.c p_x) h trivial rfl rfl rfl ?_))
 intro b1 H2 h
 refine Za (GL.nil (GC.seq (Zo (Zf (Yl h fun x3 h => ?_)))))
 refine GL.nil (GC.block ?_)
 obtain ⟨J5, h, hR8⟩ := h
 refine GC.join (α := Bool) J5 (fun x6 => [(5, .bool x6), (1, pv (some (b1, 0))), (4, .int .u8 x3)]) ?_ ?_
 refine Zo (Zi (.bool ((x3 : Int) == 1)) (Za (GL.nil (Yd h (fun hc9 h => ?_) fun hc9 h => ?_))))
 exact Yk I3 ((x3 : Int) == 1) h
 refine GC.region (Zi (.bool ((x3 : Int) == 2)) (Za ?_))
 exact Yj I3 ((x3 : Int) == 2) h
 intro x6 H7 h
 replace h := hR8 x6 H7 h
 refine Yd h (fun hc10 h => ?_) fun hc10 h => ?_
 refine Zo (Zf (Yl h fun x11 h => ?_))
 refine Zc h QgN ?_
 rintro _ H14 ⟨r13, rfl, h⟩
 refine Zm ?_
 obtain ⟨J16, h, hR17⟩ := h
 refine GL.cut (α := Bool) 5 J16 (fun b15 => [(16, .bool b15), (1, pv (some (b1, 0)))]) ?_ ?_
 rcases h.em with ⟨hc18, h⟩ | ⟨hc18, h⟩
 refine Zu hc18 Yf ?_
 obtain ⟨x19, v20, h⟩ := h
 refine Zu hc18 (Yo v20) (Zu hc18 (OV.lenSl rfl rfl) (Zu hc18 (OV.ibin (v := .bool (decide (((Sl.len x19 : Int) : Int) ≤ 8))) rfl rfl rfl) (Zt hc18 ?_)))
 exact Yj I3 (decide (((Sl.len x19 : Int) : Int) ≤ 8)) h
 refine Zk hc18 (Zk hc18 (Zk hc18 (Zk hc18 (Zn hc18 ?_))))
 exact Yj I3 false h
 intro b15 H21 h
 replace h := hR17 b15 H21 h
 refine Zm ?_
 obtain ⟨J23, h, hR24⟩ := h
 refine GL.cut (α := Bool) 4 J23 (fun b22 => [(21, .bool b22)]) ?_ ?_
 rcases h.em with ⟨hc25, h⟩ | ⟨hc25, h⟩
 refine Zu hc25 Yf ?_
 obtain ⟨x26, v27, h⟩ := h
 refine Zu hc25 (Yo v27) (GL.call h (Yt hc25) rfl Qd4 (vs := [slv x26, .func (.func 152) (List.toArray []) (List.toArray [])]) rfl ?_)
 rintro _ H29 ⟨r28, rfl, h⟩
 refine Zt hc25 ?_
 exact Yj I3 r28 h
 refine Zk hc25 (Zk hc25 (Zk hc25 (Zn hc25 ?_)))
 exact Yj I3 false h
 intro b22 H30 h
 replace h := hR24 b22 H30 h
 refine Za (GL.nil ?_)
 exact Y1 I3 ⟨b22, rfl, h⟩
 refine Zo (Zi (.bool ((x3 : Int) == 3)) (Za (GL.nil (Yd h (fun hc31 h => ?_) fun hc31 h => ?_))))
 refine Zo (Zf (Yl h fun x32 h => ?_))
 refine Zv (OV.sbin (a := x32) (b := ([] : Str)) (v := .bool (x32 == ([] : Str))) rfl rfl rfl) (Zm ?_)
 obtain ⟨J35, h, hR36⟩ := h
 refine GL.cut (α := Bool) 5 J35 (fun b34 => [(32, .bool b34), (1, pv (some (b1, 0)))]) ?_ ?_
 rcases h.em with ⟨hc37, h⟩ | ⟨hc37, h⟩
 refine Zu hc37 Yf ?_
 obtain ⟨x38, v39, h⟩ := h
 refine Zu hc37 (Yo v39) (Zu hc37 (OV.lenSl rfl rfl) (Zu hc37 (OV.ibin (v := .bool (((Sl.len x38 : Int) : Int) == 1)) rfl rfl rfl) (Zt hc37 ?_)))
 exact Yj I3 (((Sl.len x38 : Int) : Int) == 1) h
 refine Zk hc37 (Zk hc37 (Zk hc37 (Zk hc37 (Zn hc37 ?_))))
 exact Yj I3 false h
 intro b34 H40 h
 replace h := hR36 b34 H40 h
 refine Zm ?_
 obtain ⟨J42, h, hR43⟩ := h
 refine GL.cut (α := Bool) 6 J42 (fun b41 => [(39, .bool b41)]) ?_ ?_
 rcases h.em with ⟨hc44, h⟩ | ⟨hc44, h⟩
 refine Zu hc44 Yf ?_
 obtain ⟨x45, v46, h⟩ := h
 refine Zu hc44 (Yo v46) ?_
 obtain ⟨p47, ha48, hb49, hc50, hd51, h⟩ := h
 refine Zu hc44 (OV.indexAddr rfl rfl rfl rfl ha48 hb49 hc50 hd51) ?_
 obtain ⟨x52, v53, h⟩ := h
 refine Zu hc44 (OV.loadT rfl rfl rfl v53) (GL.call h (Yt hc44) rfl Qi5 (vs := [.agg (Qa.c x52).toArray]) rfl ?_)
 rintro _ H55 ⟨r54, rfl, h⟩
 refine Zt hc44 ?_
 exact Yj I3 r54 h
 refine Zk hc44 (Zk hc44 (Zk hc44 (Zk hc44 (Zk hc44 (Zn hc44 ?_)))))
 exact Yj I3 false h
 intro b41 H56 h
 replace h := hR43 b41 H56 h
 refine Za (GL.nil ?_)
 exact Y1 I3 ⟨b41, rfl, h⟩
 refine Zo (Zi (.bool ((x3 : Int) == 4)) (Za (GL.nil (Yd h (fun hc57 h => ?_) fun hc57 h => ?_))))
 refine Zo (Zf (Yl h fun x58 h => ?_))
 refine Zc h Qin ?_
 rintro _ H61 ⟨r60, rfl, h⟩
 refine Zm ?_
 obtain ⟨J63, h, hR64⟩ := h
 refine GL.cut (α := Bool) 5 J63 (fun b62 => [(50, .bool b62), (1, pv (some (b1, 0)))]) ?_ ?_
 rcases h.em with ⟨hc65, h⟩ | ⟨hc65, h⟩
 refine Zu hc65 Yf ?_
 obtain ⟨x66, v67, h⟩ := h
 refine Zu hc65 (Yo v67) (Zu hc65 (OV.lenSl rfl rfl) (Zu hc65 (OV.ibin (v := .bool (((Sl.len x66 : Int) : Int) == 1)) rfl rfl rfl) (Zt hc65 ?_)))
 exact Yj I3 (((Sl.len x66 : Int) : Int) == 1) h
 refine Zk hc65 (Zk hc65 (Zk hc65 (Zk hc65 (Zn hc65 ?_))))
 exact Yj I3 false h
 intro b62 H68 h
 replace h := hR64 b62 H68 h
 refine Zm ?_
 obtain ⟨J70, h, hR71⟩ := h
 refine GL.cut (α := Bool) 6 J70 (fun b69 => [(57, .bool b69)]) ?_ ?_
 rcases h.em with ⟨hc72, h⟩ | ⟨hc72, h⟩
 refine Zu hc72 Yf ?_
 obtain ⟨x73, v74, h⟩ := h
 refine Zu hc72 (Yo v74) ?_
 obtain ⟨p75, ha76, hb77, hc78, hd79, h⟩ := h
 refine Zu hc72 (OV.indexAddr rfl rfl rfl rfl ha76 hb77 hc78 hd79) ?_
 obtain ⟨x80, v81, h⟩ := h
 refine Zu hc72 (OV.loadT rfl rfl rfl v81) (GL.call h (Yt hc72) rfl Qi5 (vs := [.agg (Qa.c x80).toArray]) rfl ?_)
 rintro _ H83 ⟨r82, rfl, h⟩
 refine Zt hc72 ?_
 exact Yj I3 r82 h
 refine Zk hc72 (Zk hc72 (Zk hc72 (Zk hc72 (Zk hc72 (Zn hc72 ?_)))))
 exact Yj I3 false h
 intro b69 H84 h
 replace h := hR71 b69 H84 h
 refine Za (GL.nil ?_)
 exact Y1 I3 ⟨b69, rfl, h⟩
 refine GC.skip_to (fun _ _ h => h) (Zo (Za (GL.nil ?_)))
 exact Y1 I3 ⟨false, rfl, h⟩
def Qjh (C : Ctx) (p_x : Ql) (K : Bool → Heap → Prop) (H : Heap) : Prop :=
 nw (Ql.c p_x) (fun b1 H2 =>
 ldL H2 ((b1, 0).1, (b1, 0).2 + 5) fun x3 =>
 K (decide (((Sl.len x3 : Int) : Int) ≤ 12)) H2) H
theorem QlX (C p_x K H) (h : Qjh C p_x K H) : QcY C p_x K H := by
 refine Ye Tryz.func60 rfl Tryz.ntmps60 [(0, .agg (Ql.c p_x).toArray)] (Zo (GL.box (v := .agg (Ql.c p_x).toArray) (cs := Ql.c p_x) h trivial rfl rfl rfl ?_))
 intro b1 H2 h
 refine Za (GL.nil (Zo (Zf (Yl h fun x3 h => ?_))))
 refine Zq (Zi (.bool (decide (((Sl.len x3 : Int) : Int) ≤ 12))) (Za (GL.nil ?_)))
 exact Y1 I3 ⟨(decide (((Sl.len x3 : Int) : Int) ≤ 12)), rfl, h⟩
def Qji (C : Ctx) (p_x : Qi) (K : Bool → Heap → Prop) (H : Heap) : Prop :=
 nw (Qi.c p_x) (fun b1 H2 =>
 ldL H2 ((b1, 0).1, (b1, 0).2 + 3) fun x3 =>
 K (decide (((Sl.len x3 : Int) : Int) ≤ 12)) H2) H
theorem QlY (C p_x K H) (h : Qji C p_x K H) : QcZ C p_x K H := by
 refine Ye Tryz.func61 rfl Tryz.ntmps61 [(0, .agg (Qi.c p_x).toArray)] (Zo (GL.box (v := .agg (Qi.c p_x).toArray) (cs := Qi.c p_x) h trivial rfl rfl rfl ?_))
 intro b1 H2 h
 refine Za (GL.nil (Zo (Zf (Yl h fun x3 h => ?_))))
 refine Zq (Zi (.bool (decide (((Sl.len x3 : Int) : Int) ≤ 12))) (Za (GL.nil ?_)))
 exact Y1 I3 ⟨(decide (((Sl.len x3 : Int) : Int) ≤ 12)), rfl, h⟩
def QW (C : Ctx) (p_s1 : Sl) (p_s2 : Sl) (p_eq : Value) (K : Bool → Heap → Prop) (H : Heap) : Prop :=
 ift (((Sl.len p_s1 : Int) : Int) != (Sl.len p_s2 : Int))
 (K false H)
 (lp (α := Int) 0 H (fun x2 J3 H4 =>
 ift (decide ((x2 : Int) < (Sl.len p_s1 : Int)))
 (ixa p_s1 x2 fun p6 =>
 ldT H4 Qj.c (p6.1, p6.2 + (x2 : Int).toNat * 3) fun x11 =>
 nw (Qj.c Qj.zero) (fun b13 H14 =>
 stT (b13, 0) (Qj.c x11) (fun H15 =>
 ixa p_s2 x2 fun p16 =>
 ldT H15 Qj.c (p16.1, p16.2 + (x2 : Int).toNat * 3) fun x21 =>
 nw (Qj.c Qj.zero) (fun b23 H24 =>
 stT (b23, 0) (Qj.c x21) (fun H25 =>
 ldT H25 Qj.c (b13, 0) fun x26 =>
 ldT H25 Qj.c (b23, 0) fun x28 =>
 callU Tryz.prog C p_eq [.agg (Qj.c x26).toArray, .agg (Qj.c x28).toArray] H25 (fun v H31 => ∃ (r30 : Bool), v = .bool r30 ∧
 ift (!r30)
 (K false H31)
 (J3 (w .i64 (x2 + 1)) H31))) H24) H15) H14) H4)
 (K true H4)))
theorem QaK (C p_s1 p_s2 p_eq K H) (h : QW C p_s1 p_s2 p_eq K H) : Qw C p_s1 p_s2 p_eq K H := by
 refine Ye Tryz.func68 rfl Tryz.ntmps68 [(0, slv p_s1), (1, slv p_s2), (2, p_eq)] (Zo (Za (GL.nil (GC.seq (Zo (Zm (Zq (Zm (Zq (Zi (.bool (((Sl.len p_s1 : Int) : Int) != (Sl.len p_s2 : Int))) (GL.nil (Yd h (fun u1 h => ?_) fun u1 h => ?_))))))))))))
 refine Zo (Za (GL.nil ?_))
 exact Y1 I3 ⟨false, rfl, h⟩
 refine GC.skip (GC.seq (Zo (Zm (Zq (Zm (GL.nil (GC.block (Yp h (fun x2 => [(17, .int .i64 x2), (1, slv p_s2), (2, p_eq), (15, slv p_s1), (16, .int .i64 (Sl.len p_s1 : Int))]) ?_))))))))
 intro x2 H4 J3 h
 refine Zo (Zi (.bool (decide ((x2 : Int) < (Sl.len p_s1 : Int)))) (GL.nil (GC.seq (Yd h (fun u5 h => ?_) fun u5 h => ?_))))
 refine GC.skip (GC.seq (GC.block (Zo (Zm (Yx h fun p6 h => ?_)))))
 obtain ⟨x11, v12, h⟩ := h
 refine Zv (OV.loadT rfl rfl rfl v12) (GL.alloc (cs := Qj.c Qj.zero) h trivial rfl rfl rfl ?_)
 intro b13 H14 h
 refine Za (GL.storeT (p := (b13, 0)) (vs := Qj.c x11) h trivial rfl rfl rfl rfl ?_)
 intro H15 h
 refine GL.nil (Zo (Zm (Zm (Yx h fun p16 h => ?_))))
 obtain ⟨x21, v22, h⟩ := h
 refine Zv (OV.loadT rfl rfl rfl v22) (GL.alloc (cs := Qj.c Qj.zero) h trivial rfl rfl rfl ?_)
 intro b23 H24 h
 refine GL.storeT (p := (b23, 0)) (vs := Qj.c x21) h trivial rfl rfl rfl rfl ?_
 intro H25 h
 refine GL.nil (Zo (Zm ?_))
 obtain ⟨x26, v27, h⟩ := h
 refine Zv (OV.loadT rfl rfl rfl v27) ?_
 obtain ⟨x28, v29, h⟩ := h
 refine Zv (OV.loadT rfl rfl rfl v29) (GL.callU (xv := p_eq) (vs := [.agg (Qj.c x26).toArray, .agg (Qj.c x28).toArray]) h trivial rfl rfl rfl ?_)
 rintro _ H31 ⟨r30, rfl, h⟩
 refine Zv (OV.not rfl) (GL.nil (Yd h (fun u32 h => ?_) fun u32 h => ?_))
 refine Zo (Za (GL.nil ?_))
 exact Y1 I3 ⟨false, rfl, h⟩
 refine GC.skip_to (fun _ _ h => h) (GC.region (Zi (.int .i64 (w .i64 (x2 + 1))) (Zm ?_)))
 exact Yj I3 (w .i64 (x2 + 1)) h
 refine GC.exit_to (fun _ _ h => h) (Zo (Za (GL.nil ?_)))
 exact Y1 I3 ⟨true, rfl, h⟩
def Qj4 (C : Ctx) (p_x : Qj) (p_y : Qj) (K : Bool → Heap → Prop) (H : Heap) : Prop :=
 nw (Qj.c p_x) (fun b1 H2 =>
 nw (Qj.c p_y) (fun b3 H4 =>
 ldS H4 ((b1, 0).1, (b1, 0).2 + 2) fun x5 =>
 ldS H4 ((b3, 0).1, (b3, 0).2 + 2) fun x7 =>
 K (x5 == x7) H4) H2) H
theorem QmN (C p_x p_y K H) (h : Qj4 C p_x p_y K H) : QdF C p_x p_y K H := by
 refine Ye Tryz.func69 rfl Tryz.ntmps69 [(0, .agg (Qj.c p_x).toArray), (1, .agg (Qj.c p_y).toArray)] (Zo (GL.box (v := .agg (Qj.c p_x).toArray) (cs := Qj.c p_x) h trivial rfl rfl rfl ?_))
 intro b1 H2 h
 refine GL.box (v := .agg (Qj.c p_y).toArray) (cs := Qj.c p_y) h trivial rfl rfl rfl ?_
 intro b3 H4 h
 refine Za (GL.nil (Zo (Zf (Yl h fun x5 h => ?_))))
 refine Zf (Yl h fun x7 h => ?_)
 refine Zv (OV.sbin (a := x5) (b := x7) (v := .bool (x5 == x7)) rfl rfl rfl) (Za (GL.nil ?_))
 exact Y1 I3 ⟨(x5 == x7), rfl, h⟩
def QQ (C : Ctx) (p_s1 : Sl) (p_s2 : Sl) (p_eq : Value) (K : Bool → Heap → Prop) (H : Heap) : Prop :=
 ift (((Sl.len p_s1 : Int) : Int) != (Sl.len p_s2 : Int))
 (K false H)
 (lp (α := Int) 0 H (fun x2 J3 H4 =>
 ift (decide ((x2 : Int) < (Sl.len p_s1 : Int)))
 (ixa p_s1 x2 fun p6 =>
 ldT H4 Qf.c (p6.1, p6.2 + (x2 : Int).toNat * 6) fun x11 =>
 nw (Qf.c Qf.zero) (fun b13 H14 =>
 stT (b13, 0) (Qf.c x11) (fun H15 =>
 ixa p_s2 x2 fun p16 =>
 ldT H15 Qf.c (p16.1, p16.2 + (x2 : Int).toNat * 6) fun x21 =>
 nw (Qf.c Qf.zero) (fun b23 H24 =>
 stT (b23, 0) (Qf.c x21) (fun H25 =>
 ldT H25 Qf.c (b13, 0) fun x26 =>
 ldT H25 Qf.c (b23, 0) fun x28 =>
 callU Tryz.prog C p_eq [.agg (Qf.c x26).toArray, .agg (Qf.c x28).toArray] H25 (fun v H31 => ∃ (r30 : Bool), v = .bool r30 ∧
 ift (!r30)
 (K false H31)
 (J3 (w .i64 (x2 + 1)) H31))) H24) H15) H14) H4)
 (K true H4)))
theorem Qax (C p_s1 p_s2 p_eq K H) (h : QQ C p_s1 p_s2 p_eq K H) : Qv C p_s1 p_s2 p_eq K H := by
 refine Ye Tryz.func70 rfl Tryz.ntmps70 [(0, slv p_s1), (1, slv p_s2), (2, p_eq)] (Zo (Za (GL.nil (GC.seq (Zo (Zm (Zq (Zm (Zq (Zi (.bool (((Sl.len p_s1 : Int) : Int) != (Sl.len p_s2 : Int))) (GL.nil (Yd h (fun u1 h => ?_) fun u1 h => ?_))))))))))))
 refine Zo (Za (GL.nil ?_))
 exact Y1 I3 ⟨false, rfl, h⟩
 refine GC.skip (GC.seq (Zo (Zm (Zq (Zm (GL.nil (GC.block (Yp h (fun x2 => [(17, .int .i64 x2), (1, slv p_s2), (2, p_eq), (15, slv p_s1), (16, .int .i64 (Sl.len p_s1 : Int))]) ?_))))))))
 intro x2 H4 J3 h
 refine Zo (Zi (.bool (decide ((x2 : Int) < (Sl.len p_s1 : Int)))) (GL.nil (GC.seq (Yd h (fun u5 h => ?_) fun u5 h => ?_))))
 refine GC.skip (GC.seq (GC.block (Zo (Zm (Yx h fun p6 h => ?_)))))
 obtain ⟨x11, v12, h⟩ := h
 refine Zv (OV.loadT rfl rfl rfl v12) (GL.alloc (cs := Qf.c Qf.zero) h trivial rfl rfl rfl ?_)
 intro b13 H14 h
 refine Za (GL.storeT (p := (b13, 0)) (vs := Qf.c x11) h trivial rfl rfl rfl rfl ?_)
 intro H15 h
 refine GL.nil (Zo (Zm (Zm (Yx h fun p16 h => ?_))))
 obtain ⟨x21, v22, h⟩ := h
 refine Zv (OV.loadT rfl rfl rfl v22) (GL.alloc (cs := Qf.c Qf.zero) h trivial rfl rfl rfl ?_)
 intro b23 H24 h
 refine GL.storeT (p := (b23, 0)) (vs := Qf.c x21) h trivial rfl rfl rfl rfl ?_
 intro H25 h
 refine GL.nil (Zo (Zm ?_))
 obtain ⟨x26, v27, h⟩ := h
 refine Zv (OV.loadT rfl rfl rfl v27) ?_
 obtain ⟨x28, v29, h⟩ := h
 refine Zv (OV.loadT rfl rfl rfl v29) (GL.callU (xv := p_eq) (vs := [.agg (Qf.c x26).toArray, .agg (Qf.c x28).toArray]) h trivial rfl rfl rfl ?_)
 rintro _ H31 ⟨r30, rfl, h⟩
 refine Zv (OV.not rfl) (GL.nil (Yd h (fun u32 h => ?_) fun u32 h => ?_))
 refine Zo (Za (GL.nil ?_))
 exact Y1 I3 ⟨false, rfl, h⟩
 refine GC.skip_to (fun _ _ h => h) (GC.region (Zi (.int .i64 (w .i64 (x2 + 1))) (Zm ?_)))
 exact Yj I3 (w .i64 (x2 + 1)) h
 refine GC.exit_to (fun _ _ h => h) (Zo (Za (GL.nil ?_)))
 exact Y1 I3 ⟨true, rfl, h⟩
def Qj5 (C : Ctx) (p_x : Qf) (p_y : Qf) (K : Bool → Heap → Prop) (H : Heap) : Prop :=
 nw (Qf.c p_x) (fun b1 H2 =>
 nw (Qf.c p_y) (fun b3 H4 =>
 ldB H4 ((b1, 0).1, (b1, 0).2 + 2) fun x5 =>
 ldB H4 ((b3, 0).1, (b3, 0).2 + 2) fun x7 =>
 jn (α := Bool) (fun b9 H17 =>
 jn (α := Bool) (fun b18 H28 =>
 jn (α := Bool) (fun b29 H39 =>
 K b29 H39)
 (fun J30 => ift b18
 (ldL H28 ((b1, 0).1, (b1, 0).2 + 5) fun x33 =>
 ldL H28 ((b3, 0).1, (b3, 0).2 + 5) fun x35 =>
 Qu C x33 x35 (.func (.func 74) (List.toArray []) (List.toArray []) : Value) (fun r37 H38 =>
 J30 r37 H38) H28)
 (J30 false H28)))
 (fun J19 => ift b9
 (ldL H17 ((b1, 0).1, (b1, 0).2 + 4) fun x22 =>
 ldL H17 ((b3, 0).1, (b3, 0).2 + 4) fun x24 =>
 QaG C x22 x24 (fun r26 H27 =>
 J19 r26 H27) H17)
 (J19 false H17)))
 (fun J10 => ift (x5 == x7)
 (ldS H4 ((b1, 0).1, (b1, 0).2 + 3) fun x13 =>
 ldS H4 ((b3, 0).1, (b3, 0).2 + 3) fun x15 =>
 J10 (x13 == x15) H4)
 (J10 false H4))) H2) H
theorem QmO (C p_x p_y K H) (h : Qj5 C p_x p_y K H) : QdG C p_x p_y K H := by
 refine Ye Tryz.func71 rfl Tryz.ntmps71 [(0, .agg (Qf.c p_x).toArray), (1, .agg (Qf.c p_y).toArray)] (Zo (GL.box (v := .agg (Qf.c p_x).toArray) (cs := Qf.c p_x) h trivial rfl rfl rfl ?_))
 intro b1 H2 h
 refine GL.box (v := .agg (Qf.c p_y).toArray) (cs := Qf.c p_y) h trivial rfl rfl rfl ?_
 intro b3 H4 h
 refine Za (GL.nil (Zo (Zf (Yl h fun x5 h => ?_))))
 refine Zf (Yl h fun x7 h => ?_)
 refine Zv (OV.eqlBool rfl rfl rfl) (Zm ?_)
 obtain ⟨J10, h, hR11⟩ := h
 refine GL.cut (α := Bool) 6 J10 (fun b9 => [(16, .bool b9), (2, pv (some (b1, 0))), (3, pv (some (b3, 0)))]) ?_ ?_
 rcases h.em with ⟨u12, h⟩ | ⟨u12, h⟩
 refine Zu u12 Yf ?_
 obtain ⟨x13, v14, h⟩ := h
 refine Zu u12 (Yo v14) (Zu u12 Yf ?_)
 obtain ⟨x15, v16, h⟩ := h
 refine Zu u12 (Yo v16) (Zu u12 (OV.sbin (a := x13) (b := x15) (v := .bool (x13 == x15)) rfl rfl rfl) (Zt u12 ?_))
 exact Yj I3 (x13 == x15) h
 refine Zk u12 (Zk u12 (Zk u12 (Zk u12 (Zk u12 (Zn u12 ?_)))))
 exact Yj I3 false h
 intro b9 H17 h
 replace h := hR11 b9 H17 h
 refine Zm ?_
 obtain ⟨J19, h, hR20⟩ := h
 refine GL.cut (α := Bool) 6 J19 (fun b18 => [(23, .bool b18), (2, pv (some (b1, 0))), (3, pv (some (b3, 0)))]) ?_ ?_
 rcases h.em with ⟨u21, h⟩ | ⟨u21, h⟩
 refine Zu u21 Yf ?_
 obtain ⟨x22, v23, h⟩ := h
 refine Zu u21 (Yo v23) (Zu u21 Yf ?_)
 obtain ⟨x24, v25, h⟩ := h
 refine Zu u21 (Yo v25) (GL.call h (Yt u21) rfl QcP (vs := [slv x22, slv x24]) rfl ?_)
 rintro _ H27 ⟨r26, rfl, h⟩
 refine Zt u21 ?_
 exact Yj I3 r26 h
 refine Zk u21 (Zk u21 (Zk u21 (Zk u21 (Zk u21 (Zn u21 ?_)))))
 exact Yj I3 false h
 intro b18 H28 h
 replace h := hR20 b18 H28 h
 refine Zm ?_
 obtain ⟨J30, h, hR31⟩ := h
 refine GL.cut (α := Bool) 6 J30 (fun b29 => [(30, .bool b29)]) ?_ ?_
 rcases h.em with ⟨u32, h⟩ | ⟨u32, h⟩
 refine Zu u32 Yf ?_
 obtain ⟨x33, v34, h⟩ := h
 refine Zu u32 (Yo v34) (Zu u32 Yf ?_)
 obtain ⟨x35, v36, h⟩ := h
 refine Zu u32 (Yo v36) (GL.call h (Yt u32) rfl Qay (vs := [slv x33, slv x35, .func (.func 74) (List.toArray []) (List.toArray [])]) rfl ?_)
 rintro _ H38 ⟨r37, rfl, h⟩
 refine Zt u32 ?_
 exact Yj I3 r37 h
 refine Zk u32 (Zk u32 (Zk u32 (Zk u32 (Zk u32 (Zn u32 ?_)))))
 exact Yj I3 false h
 intro b29 H39 h
 replace h := hR31 b29 H39 h
 refine Za (GL.nil ?_)
 exact Y1 I3 ⟨b29, rfl, h⟩
def QcS (C : Ctx) (p_s1 : Sl) (p_s2 : Sl) (K : Bool → Heap → Prop) (H : Heap) : Prop :=
 ift (((Sl.len p_s1 : Int) : Int) != (Sl.len p_s2 : Int))
 (K false H)
 (lp (α := Int) 0 H (fun x2 J3 H4 =>
 ift (decide ((x2 : Int) < (Sl.len p_s1 : Int)))
 (ixa p_s1 x2 fun p6 =>
 ldS H4 (p6.1, p6.2 + (x2 : Int).toNat * 1) fun x11 =>
 ixa p_s2 x2 fun p13 =>
 ldS H4 (p13.1, p13.2 + (x2 : Int).toNat * 1) fun x18 =>
 ift (!(x11 == x18))
 (K false H4)
 (J3 (w .i64 (x2 + 1)) H4))
 (K true H4)))
theorem QfM (C p_s1 p_s2 K H) (h : QcS C p_s1 p_s2 K H) : QaG C p_s1 p_s2 K H := by
 refine Ye Tryz.func72 rfl Tryz.ntmps72 [(0, slv p_s1), (1, slv p_s2)] (Zo (Za (GL.nil (GC.seq (Zo (Zm (Zq (Zm (Zq (Zi (.bool (((Sl.len p_s1 : Int) : Int) != (Sl.len p_s2 : Int))) (GL.nil (Yd h (fun u1 h => ?_) fun u1 h => ?_))))))))))))
 refine Zo (Za (GL.nil ?_))
 exact Y1 I3 ⟨false, rfl, h⟩
 refine GC.skip (GC.seq (Zo (Zm (Zq (Zm (GL.nil (GC.block (Yp h (fun x2 => [(13, .int .i64 x2), (0, slv p_s1), (1, slv p_s2), (12, .int .i64 (Sl.len p_s1 : Int))]) ?_))))))))
 intro x2 H4 J3 h
 refine Zo (Zi (.bool (decide ((x2 : Int) < (Sl.len p_s1 : Int)))) (GL.nil (GC.seq (Yd h (fun u5 h => ?_) fun u5 h => ?_))))
 refine GC.skip (GC.seq (GC.block (Zo (Zm (Za (GL.nil (GC.seq (GC.draw (by kernel_rfl) (by kernel_rfl) (GQ.val trivial rfl (OV.move (v := slv p_s1) rfl) (GQ.val trivial rfl (OV.move (v := .int .i64 x2) rfl) ?_))))))))))
 obtain ⟨p6, ha7, hb8, u9, hd10, h⟩ := h
 refine GQ.val trivial rfl (OV.indexAddr (s := p_s1) rfl rfl rfl rfl ha7 hb8 u9 hd10) ?_
 obtain ⟨x11, v12, h⟩ := h
 refine GQ.val trivial rfl (OV.load (p := (p6.1, p6.2 + (x2 : Int).toNat * 1)) rfl rfl v12) (GQ.val trivial rfl (OV.move (v := slv p_s2) rfl) (GQ.val trivial rfl (OV.move (v := .int .i64 x2) rfl) ?_))
 obtain ⟨p13, ha14, hb15, u16, hd17, h⟩ := h
 refine GQ.val trivial rfl (OV.indexAddr (s := p_s2) rfl rfl rfl rfl ha14 hb15 u16 hd17) ?_
 obtain ⟨x18, v19, h⟩ := h
 refine GQ.val trivial rfl (OV.load (p := (p13.1, p13.2 + (x2 : Int).toNat * 1)) rfl rfl v19) (GQ.val trivial rfl (OV.sbin (a := x11) (b := x18) (v := .bool (!(x11 == x18))) rfl rfl rfl) (GQ.nil (GL.nil (Yd h (fun u20 h => ?_) fun u20 h => ?_))))
 refine Zo (Za (GL.nil ?_))
 exact Y1 I3 ⟨false, rfl, h⟩
 refine GC.skip_to (fun _ _ h => h) (GC.region (Zi (.int .i64 (w .i64 (x2 + 1))) (Zm ?_)))
 exact Yj I3 (w .i64 (x2 + 1)) h
 refine GC.exit_to (fun _ _ h => h) (Zo (Za (GL.nil ?_)))
 exact Y1 I3 ⟨true, rfl, h⟩
def QO (C : Ctx) (p_s1 : Sl) (p_s2 : Sl) (p_eq : Value) (K : Bool → Heap → Prop) (H : Heap) : Prop :=
 ift (((Sl.len p_s1 : Int) : Int) != (Sl.len p_s2 : Int))
 (K false H)
 (lp (α := Int) 0 H (fun x2 J3 H4 =>
 ift (decide ((x2 : Int) < (Sl.len p_s1 : Int)))
 (ixa p_s1 x2 fun p6 =>
 ldT H4 Qe.c (p6.1, p6.2 + (x2 : Int).toNat * 2) fun x11 =>
 nw (Qe.c Qe.zero) (fun b13 H14 =>
 stT (b13, 0) (Qe.c x11) (fun H15 =>
 ixa p_s2 x2 fun p16 =>
 ldT H15 Qe.c (p16.1, p16.2 + (x2 : Int).toNat * 2) fun x21 =>
 nw (Qe.c Qe.zero) (fun b23 H24 =>
 stT (b23, 0) (Qe.c x21) (fun H25 =>
 ldT H25 Qe.c (b13, 0) fun x26 =>
 ldT H25 Qe.c (b23, 0) fun x28 =>
 callU Tryz.prog C p_eq [.agg (Qe.c x26).toArray, .agg (Qe.c x28).toArray] H25 (fun v H31 => ∃ (r30 : Bool), v = .bool r30 ∧
 ift (!r30)
 (K false H31)
 (J3 (w .i64 (x2 + 1)) H31))) H24) H15) H14) H4)
 (K true H4)))
theorem Qav (C p_s1 p_s2 p_eq K H) (h : QO C p_s1 p_s2 p_eq K H) : Qu C p_s1 p_s2 p_eq K H := by
 refine Ye Tryz.func73 rfl Tryz.ntmps73 [(0, slv p_s1), (1, slv p_s2), (2, p_eq)] (Zo (Za (GL.nil (GC.seq (Zo (Zm (Zq (Zm (Zq (Zi (.bool (((Sl.len p_s1 : Int) : Int) != (Sl.len p_s2 : Int))) (GL.nil (Yd h (fun u1 h => ?_) fun u1 h => ?_))))))))))))
 refine Zo (Za (GL.nil ?_))
 exact Y1 I3 ⟨false, rfl, h⟩
 refine GC.skip (GC.seq (Zo (Zm (Zq (Zm (GL.nil (GC.block (Yp h (fun x2 => [(17, .int .i64 x2), (1, slv p_s2), (2, p_eq), (15, slv p_s1), (16, .int .i64 (Sl.len p_s1 : Int))]) ?_))))))))
 intro x2 H4 J3 h
 refine Zo (Zi (.bool (decide ((x2 : Int) < (Sl.len p_s1 : Int)))) (GL.nil (GC.seq (Yd h (fun u5 h => ?_) fun u5 h => ?_))))
 refine GC.skip (GC.seq (GC.block (Zo (Zm (Yx h fun p6 h => ?_)))))
 obtain ⟨x11, v12, h⟩ := h
 refine Zv (OV.loadT rfl rfl rfl v12) (GL.alloc (cs := Qe.c Qe.zero) h trivial rfl rfl rfl ?_)
 intro b13 H14 h
 refine Za (GL.storeT (p := (b13, 0)) (vs := Qe.c x11) h trivial rfl rfl rfl rfl ?_)
 intro H15 h
 refine GL.nil (Zo (Zm (Zm (Yx h fun p16 h => ?_))))
 obtain ⟨x21, v22, h⟩ := h
 refine Zv (OV.loadT rfl rfl rfl v22) (GL.alloc (cs := Qe.c Qe.zero) h trivial rfl rfl rfl ?_)
 intro b23 H24 h
 refine GL.storeT (p := (b23, 0)) (vs := Qe.c x21) h trivial rfl rfl rfl rfl ?_
 intro H25 h
 refine GL.nil (Zo (Zm ?_))
 obtain ⟨x26, v27, h⟩ := h
 refine Zv (OV.loadT rfl rfl rfl v27) ?_
 obtain ⟨x28, v29, h⟩ := h
 refine Zv (OV.loadT rfl rfl rfl v29) (GL.callU (xv := p_eq) (vs := [.agg (Qe.c x26).toArray, .agg (Qe.c x28).toArray]) h trivial rfl rfl rfl ?_)
 rintro _ H31 ⟨r30, rfl, h⟩
 refine Zv (OV.not rfl) (GL.nil (Yd h (fun u32 h => ?_) fun u32 h => ?_))
 refine Zo (Za (GL.nil ?_))
 exact Y1 I3 ⟨false, rfl, h⟩
 refine GC.skip_to (fun _ _ h => h) (GC.region (Zi (.int .i64 (w .i64 (x2 + 1))) (Zm ?_)))
 exact Yj I3 (w .i64 (x2 + 1)) h
 refine GC.exit_to (fun _ _ h => h) (Zo (Za (GL.nil ?_)))
 exact Y1 I3 ⟨true, rfl, h⟩
def Qip (C : Ctx) (p_c : Qe) (p_d : Qe) (K : Bool → Heap → Prop) (H : Heap) : Prop :=
 nw (Qe.c p_c) (fun b1 H2 =>
 nw (Qe.c p_d) (fun b3 H4 =>
 ldS H4 ((b1, 0).1, (b1, 0).2 + 0) fun x5 =>
 ldS H4 ((b3, 0).1, (b3, 0).2 + 0) fun x7 =>
 jn (α := Bool) (fun b9 H19 =>
 K b9 H19)
 (fun J10 => ift (x5 == x7)
 (ldL H4 ((b1, 0).1, (b1, 0).2 + 1) fun x13 =>
 ldL H4 ((b3, 0).1, (b3, 0).2 + 1) fun x15 =>
 Qr C x13 x15 (.func (.func 76) (List.toArray []) (List.toArray []) : Value) (fun r17 H18 =>
 J10 r17 H18) H4)
 (J10 false H4))) H2) H
theorem QlD (C p_c p_d K H) (h : Qip C p_c p_d K H) : Qcj C p_c p_d K H := by
 refine Ye Tryz.func74 rfl Tryz.ntmps74 [(0, .agg (Qe.c p_c).toArray), (1, .agg (Qe.c p_d).toArray)] (Zo (GL.box (v := .agg (Qe.c p_c).toArray) (cs := Qe.c p_c) h trivial rfl rfl rfl ?_))
 intro b1 H2 h
 refine GL.box (v := .agg (Qe.c p_d).toArray) (cs := Qe.c p_d) h trivial rfl rfl rfl ?_
 intro b3 H4 h
 refine Za (GL.nil (Zo (Zf (Yl h fun x5 h => ?_))))
 refine Zf (Yl h fun x7 h => ?_)
 refine Zv (OV.sbin (a := x5) (b := x7) (v := .bool (x5 == x7)) rfl rfl rfl) (Zm ?_)
 obtain ⟨J10, h, hR11⟩ := h
 refine GL.cut (α := Bool) 6 J10 (fun b9 => [(16, .bool b9)]) ?_ ?_
 rcases h.em with ⟨u12, h⟩ | ⟨u12, h⟩
 refine Zu u12 Yf ?_
 obtain ⟨x13, v14, h⟩ := h
 refine Zu u12 (Yo v14) (Zu u12 Yf ?_)
 obtain ⟨x15, v16, h⟩ := h
 refine Zu u12 (Yo v16) (GL.call h (Yt u12) rfl QK (vs := [slv x13, slv x15, .func (.func 76) (List.toArray []) (List.toArray [])]) rfl ?_)
 rintro _ H18 ⟨r17, rfl, h⟩
 refine Zt u12 ?_
 exact Yj I3 r17 h
 refine Zk u12 (Zk u12 (Zk u12 (Zk u12 (Zk u12 (Zn u12 ?_)))))
 exact Yj I3 false h
 intro b9 H19 h
 replace h := hR11 b9 H19 h
 refine Za (GL.nil ?_)
 exact Y1 I3 ⟨b9, rfl, h⟩
def QL (C : Ctx) (p_s1 : Sl) (p_s2 : Sl) (p_eq : Value) (K : Bool → Heap → Prop) (H : Heap) : Prop :=
 ift (((Sl.len p_s1 : Int) : Int) != (Sl.len p_s2 : Int))
 (K false H)
 (lp (α := Int) 0 H (fun x2 J3 H4 =>
 ift (decide ((x2 : Int) < (Sl.len p_s1 : Int)))
 (ixa p_s1 x2 fun p6 =>
 ldT H4 Qb.c (p6.1, p6.2 + (x2 : Int).toNat * 3) fun x11 =>
 nw (Qb.c Qb.zero) (fun b13 H14 =>
 stT (b13, 0) (Qb.c x11) (fun H15 =>
 ixa p_s2 x2 fun p16 =>
 ldT H15 Qb.c (p16.1, p16.2 + (x2 : Int).toNat * 3) fun x21 =>
 nw (Qb.c Qb.zero) (fun b23 H24 =>
 stT (b23, 0) (Qb.c x21) (fun H25 =>
 ldT H25 Qb.c (b13, 0) fun x26 =>
 ldT H25 Qb.c (b23, 0) fun x28 =>
 callU Tryz.prog C p_eq [.agg (Qb.c x26).toArray, .agg (Qb.c x28).toArray] H25 (fun v H31 => ∃ (r30 : Bool), v = .bool r30 ∧
 ift (!r30)
 (K false H31)
 (J3 (w .i64 (x2 + 1)) H31))) H24) H15) H14) H4)
 (K true H4)))
theorem Qan (C p_s1 p_s2 p_eq K H) (h : QL C p_s1 p_s2 p_eq K H) : Qr C p_s1 p_s2 p_eq K H := by
 refine Ye Tryz.func75 rfl Tryz.ntmps75 [(0, slv p_s1), (1, slv p_s2), (2, p_eq)] (Zo (Za (GL.nil (GC.seq (Zo (Zm (Zq (Zm (Zq (Zi (.bool (((Sl.len p_s1 : Int) : Int) != (Sl.len p_s2 : Int))) (GL.nil (Yd h (fun u1 h => ?_) fun u1 h => ?_))))))))))))
 refine Zo (Za (GL.nil ?_))
 exact Y1 I3 ⟨false, rfl, h⟩
 refine GC.skip (GC.seq (Zo (Zm (Zq (Zm (GL.nil (GC.block (Yp h (fun x2 => [(17, .int .i64 x2), (1, slv p_s2), (2, p_eq), (15, slv p_s1), (16, .int .i64 (Sl.len p_s1 : Int))]) ?_))))))))
 intro x2 H4 J3 h
 refine Zo (Zi (.bool (decide ((x2 : Int) < (Sl.len p_s1 : Int)))) (GL.nil (GC.seq (Yd h (fun u5 h => ?_) fun u5 h => ?_))))
 refine GC.skip (GC.seq (GC.block (Zo (Zm (Yx h fun p6 h => ?_)))))
 obtain ⟨x11, v12, h⟩ := h
 refine Zv (OV.loadT rfl rfl rfl v12) (GL.alloc (cs := Qb.c Qb.zero) h trivial rfl rfl rfl ?_)
 intro b13 H14 h
 refine Za (GL.storeT (p := (b13, 0)) (vs := Qb.c x11) h trivial rfl rfl rfl rfl ?_)
 intro H15 h
 refine GL.nil (Zo (Zm (Zm (Yx h fun p16 h => ?_))))
 obtain ⟨x21, v22, h⟩ := h
 refine Zv (OV.loadT rfl rfl rfl v22) (GL.alloc (cs := Qb.c Qb.zero) h trivial rfl rfl rfl ?_)
 intro b23 H24 h
 refine GL.storeT (p := (b23, 0)) (vs := Qb.c x21) h trivial rfl rfl rfl rfl ?_
 intro H25 h
 refine GL.nil (Zo (Zm ?_))
 obtain ⟨x26, v27, h⟩ := h
 refine Zv (OV.loadT rfl rfl rfl v27) ?_
 obtain ⟨x28, v29, h⟩ := h
 refine Zv (OV.loadT rfl rfl rfl v29) (GL.callU (xv := p_eq) (vs := [.agg (Qb.c x26).toArray, .agg (Qb.c x28).toArray]) h trivial rfl rfl rfl ?_)
 rintro _ H31 ⟨r30, rfl, h⟩
 refine Zv (OV.not rfl) (GL.nil (Yd h (fun u32 h => ?_) fun u32 h => ?_))
 refine Zo (Za (GL.nil ?_))
 exact Y1 I3 ⟨false, rfl, h⟩
 refine GC.skip_to (fun _ _ h => h) (GC.region (Zi (.int .i64 (w .i64 (x2 + 1))) (Zm ?_)))
 exact Yj I3 (w .i64 (x2 + 1)) h
 refine GC.exit_to (fun _ _ h => h) (Zo (Za (GL.nil ?_)))
 exact Y1 I3 ⟨true, rfl, h⟩
def QhL (C : Ctx) (p_a : Qb) (p_b : Qb) (K : Bool → Heap → Prop) (H : Heap) : Prop :=
 nw (Qb.c p_a) (fun b1 H2 =>
 nw (Qb.c p_b) (fun b3 H4 =>
 ldS H4 ((b1, 0).1, (b1, 0).2 + 0) fun x5 =>
 ldS H4 ((b3, 0).1, (b3, 0).2 + 0) fun x7 =>
 jn (α := Bool) (fun b9 H19 =>
 K b9 H19)
 (fun J10 => ift (x5 == x7)
 (ldT H4 Qg.c ((b1, 0).1, (b1, 0).2 + 1) fun x13 =>
 ldT H4 Qg.c ((b3, 0).1, (b3, 0).2 + 1) fun x15 =>
 QbL C x13 x15 (fun r17 H18 =>
 J10 r17 H18) H4)
 (J10 false H4))) H2) H
theorem Qk7 (C p_a p_b K H) (h : QhL C p_a p_b K H) : QbR C p_a p_b K H := by
 refine Ye Tryz.func76 rfl Tryz.ntmps76 [(0, .agg (Qb.c p_a).toArray), (1, .agg (Qb.c p_b).toArray)] (Zo (GL.box (v := .agg (Qb.c p_a).toArray) (cs := Qb.c p_a) h trivial rfl rfl rfl ?_))
 intro b1 H2 h
 refine GL.box (v := .agg (Qb.c p_b).toArray) (cs := Qb.c p_b) h trivial rfl rfl rfl ?_
 intro b3 H4 h
 refine Za (GL.nil (Zo (Zf (Yl h fun x5 h => ?_))))
 refine Zf (Yl h fun x7 h => ?_)
 refine Zv (OV.sbin (a := x5) (b := x7) (v := .bool (x5 == x7)) rfl rfl rfl) (Zm ?_)
 obtain ⟨J10, h, hR11⟩ := h
 refine GL.cut (α := Bool) 6 J10 (fun b9 => [(16, .bool b9)]) ?_ ?_
 rcases h.em with ⟨u12, h⟩ | ⟨u12, h⟩
 refine Zu u12 Yf ?_
 obtain ⟨x13, v14, h⟩ := h
 refine Zu u12 (OV.loadT rfl rfl rfl v14) (Zu u12 Yf ?_)
 obtain ⟨x15, v16, h⟩ := h
 refine Zu u12 (OV.loadT rfl rfl rfl v16) (GL.call h (Yt u12) rfl Qim (vs := [.agg (Qg.c x13).toArray, .agg (Qg.c x15).toArray]) rfl ?_)
 rintro _ H18 ⟨r17, rfl, h⟩
 refine Zt u12 ?_
 exact Yj I3 r17 h
 refine Zk u12 (Zk u12 (Zk u12 (Zk u12 (Zk u12 (Zn u12 ?_)))))
 exact Yj I3 false h
 intro b9 H19 h
 replace h := hR11 b9 H19 h
 refine Za (GL.nil ?_)
 exact Y1 I3 ⟨b9, rfl, h⟩
def QX (C : Ctx) (p_s1 : Sl) (p_s2 : Sl) (p_eq : Value) (K : Bool → Heap → Prop) (H : Heap) : Prop :=
 ift (((Sl.len p_s1 : Int) : Int) != (Sl.len p_s2 : Int))
 (K false H)
 (lp (α := Int) 0 H (fun x2 J3 H4 =>
 ift (decide ((x2 : Int) < (Sl.len p_s1 : Int)))
 (ixa p_s1 x2 fun p6 =>
 ldT H4 Qh.c (p6.1, p6.2 + (x2 : Int).toNat * 6) fun x11 =>
 nw (Qh.c Qh.zero) (fun b13 H14 =>
 stT (b13, 0) (Qh.c x11) (fun H15 =>
 ixa p_s2 x2 fun p16 =>
 ldT H15 Qh.c (p16.1, p16.2 + (x2 : Int).toNat * 6) fun x21 =>
 nw (Qh.c Qh.zero) (fun b23 H24 =>
 stT (b23, 0) (Qh.c x21) (fun H25 =>
 ldT H25 Qh.c (b13, 0) fun x26 =>
 ldT H25 Qh.c (b23, 0) fun x28 =>
 callU Tryz.prog C p_eq [.agg (Qh.c x26).toArray, .agg (Qh.c x28).toArray] H25 (fun v H31 => ∃ (r30 : Bool), v = .bool r30 ∧
 ift (!r30)
 (K false H31)
 (J3 (w .i64 (x2 + 1)) H31))) H24) H15) H14) H4)
 (K true H4)))
theorem QaL (C p_s1 p_s2 p_eq K H) (h : QX C p_s1 p_s2 p_eq K H) : Qx C p_s1 p_s2 p_eq K H := by
 refine Ye Tryz.func77 rfl Tryz.ntmps77 [(0, slv p_s1), (1, slv p_s2), (2, p_eq)] (Zo (Za (GL.nil (GC.seq (Zo (Zm (Zq (Zm (Zq (Zi (.bool (((Sl.len p_s1 : Int) : Int) != (Sl.len p_s2 : Int))) (GL.nil (Yd h (fun u1 h => ?_) fun u1 h => ?_))))))))))))
 refine Zo (Za (GL.nil ?_))
 exact Y1 I3 ⟨false, rfl, h⟩
 refine GC.skip (GC.seq (Zo (Zm (Zq (Zm (GL.nil (GC.block (Yp h (fun x2 => [(17, .int .i64 x2), (1, slv p_s2), (2, p_eq), (15, slv p_s1), (16, .int .i64 (Sl.len p_s1 : Int))]) ?_))))))))
 intro x2 H4 J3 h
 refine Zo (Zi (.bool (decide ((x2 : Int) < (Sl.len p_s1 : Int)))) (GL.nil (GC.seq (Yd h (fun u5 h => ?_) fun u5 h => ?_))))
 refine GC.skip (GC.seq (GC.block (Zo (Zm (Yx h fun p6 h => ?_)))))
 obtain ⟨x11, v12, h⟩ := h
 refine Zv (OV.loadT rfl rfl rfl v12) (GL.alloc (cs := Qh.c Qh.zero) h trivial rfl rfl rfl ?_)
 intro b13 H14 h
 refine Za (GL.storeT (p := (b13, 0)) (vs := Qh.c x11) h trivial rfl rfl rfl rfl ?_)
 intro H15 h
 refine GL.nil (Zo (Zm (Zm (Yx h fun p16 h => ?_))))
 obtain ⟨x21, v22, h⟩ := h
 refine Zv (OV.loadT rfl rfl rfl v22) (GL.alloc (cs := Qh.c Qh.zero) h trivial rfl rfl rfl ?_)
 intro b23 H24 h
 refine GL.storeT (p := (b23, 0)) (vs := Qh.c x21) h trivial rfl rfl rfl rfl ?_
 intro H25 h
 refine GL.nil (Zo (Zm ?_))
 obtain ⟨x26, v27, h⟩ := h
 refine Zv (OV.loadT rfl rfl rfl v27) ?_
 obtain ⟨x28, v29, h⟩ := h
 refine Zv (OV.loadT rfl rfl rfl v29) (GL.callU (xv := p_eq) (vs := [.agg (Qh.c x26).toArray, .agg (Qh.c x28).toArray]) h trivial rfl rfl rfl ?_)
 rintro _ H31 ⟨r30, rfl, h⟩
 refine Zv (OV.not rfl) (GL.nil (Yd h (fun u32 h => ?_) fun u32 h => ?_))
 refine Zo (Za (GL.nil ?_))
 exact Y1 I3 ⟨false, rfl, h⟩
 refine GC.skip_to (fun _ _ h => h) (GC.region (Zi (.int .i64 (w .i64 (x2 + 1))) (Zm ?_)))
 exact Yj I3 (w .i64 (x2 + 1)) h
 refine GC.exit_to (fun _ _ h => h) (Zo (Za (GL.nil ?_)))
 exact Y1 I3 ⟨true, rfl, h⟩
def Qj6 (C : Ctx) (p_x : Qh) (p_y : Qh) (K : Bool → Heap → Prop) (H : Heap) : Prop :=
 nw (Qh.c p_x) (fun b1 H2 =>
 nw (Qh.c p_y) (fun b3 H4 =>
 ldB H4 ((b1, 0).1, (b1, 0).2 + 2) fun x5 =>
 ldB H4 ((b3, 0).1, (b3, 0).2 + 2) fun x7 =>
 jn (α := Bool) (fun b9 H17 =>
 jn (α := Bool) (fun b18 H26 =>
 jn (α := Bool) (fun b27 H37 =>
 K b27 H37)
 (fun J28 => ift b18
 (ldL H26 ((b1, 0).1, (b1, 0).2 + 5) fun x31 =>
 ldL H26 ((b3, 0).1, (b3, 0).2 + 5) fun x33 =>
 Qr C x31 x33 (.func (.func 76) (List.toArray []) (List.toArray []) : Value) (fun r35 H36 =>
 J28 r35 H36) H26)
 (J28 false H26)))
 (fun J19 => ift b9
 (ldS H17 ((b1, 0).1, (b1, 0).2 + 4) fun x22 =>
 ldS H17 ((b3, 0).1, (b3, 0).2 + 4) fun x24 =>
 J19 (x22 == x24) H17)
 (J19 false H17)))
 (fun J10 => ift (x5 == x7)
 (ldB H4 ((b1, 0).1, (b1, 0).2 + 3) fun x13 =>
 ldB H4 ((b3, 0).1, (b3, 0).2 + 3) fun x15 =>
 J10 (x13 == x15) H4)
 (J10 false H4))) H2) H
theorem QmP (C p_x p_y K H) (h : Qj6 C p_x p_y K H) : QdH C p_x p_y K H := by
 refine Ye Tryz.func78 rfl Tryz.ntmps78 [(0, .agg (Qh.c p_x).toArray), (1, .agg (Qh.c p_y).toArray)] (Zo (GL.box (v := .agg (Qh.c p_x).toArray) (cs := Qh.c p_x) h trivial rfl rfl rfl ?_))
 intro b1 H2 h
 refine GL.box (v := .agg (Qh.c p_y).toArray) (cs := Qh.c p_y) h trivial rfl rfl rfl ?_
 intro b3 H4 h
 refine Za (GL.nil (Zo (Zf (Yl h fun x5 h => ?_))))
 refine Zf (Yl h fun x7 h => ?_)
 refine Zv (OV.eqlBool rfl rfl rfl) (Zm ?_)
 obtain ⟨J10, h, hR11⟩ := h
 refine GL.cut (α := Bool) 6 J10 (fun b9 => [(16, .bool b9), (2, pv (some (b1, 0))), (3, pv (some (b3, 0)))]) ?_ ?_
 rcases h.em with ⟨u12, h⟩ | ⟨u12, h⟩
 refine Zu u12 Yf ?_
 obtain ⟨x13, v14, h⟩ := h
 refine Zu u12 (Yo v14) (Zu u12 Yf ?_)
 obtain ⟨x15, v16, h⟩ := h
 refine Zu u12 (Yo v16) (Zu u12 (OV.eqlBool rfl rfl rfl) (Zt u12 ?_))
 exact Yj I3 (x13 == x15) h
 refine Zk u12 (Zk u12 (Zk u12 (Zk u12 (Zk u12 (Zn u12 ?_)))))
 exact Yj I3 false h
 intro b9 H17 h
 replace h := hR11 b9 H17 h
 refine Zm ?_
 obtain ⟨J19, h, hR20⟩ := h
 refine GL.cut (α := Bool) 6 J19 (fun b18 => [(23, .bool b18), (2, pv (some (b1, 0))), (3, pv (some (b3, 0)))]) ?_ ?_
 rcases h.em with ⟨u21, h⟩ | ⟨u21, h⟩
 refine Zu u21 Yf ?_
 obtain ⟨x22, v23, h⟩ := h
 refine Zu u21 (Yo v23) (Zu u21 Yf ?_)
 obtain ⟨x24, v25, h⟩ := h
 refine Zu u21 (Yo v25) (Zu u21 (OV.sbin (a := x22) (b := x24) (v := .bool (x22 == x24)) rfl rfl rfl) (Zt u21 ?_))
 exact Yj I3 (x22 == x24) h
 refine Zk u21 (Zk u21 (Zk u21 (Zk u21 (Zk u21 (Zn u21 ?_)))))
 exact Yj I3 false h
 intro b18 H26 h
 replace h := hR20 b18 H26 h
 refine Zm ?_
 obtain ⟨J28, h, hR29⟩ := h
 refine GL.cut (α := Bool) 6 J28 (fun b27 => [(30, .bool b27)]) ?_ ?_
 rcases h.em with ⟨u30, h⟩ | ⟨u30, h⟩
 refine Zu u30 Yf ?_
 obtain ⟨x31, v32, h⟩ := h
 refine Zu u30 (Yo v32) (Zu u30 Yf ?_)
 obtain ⟨x33, v34, h⟩ := h
 refine Zu u30 (Yo v34) (GL.call h (Yt u30) rfl QK (vs := [slv x31, slv x33, .func (.func 76) (List.toArray []) (List.toArray [])]) rfl ?_)
 rintro _ H36 ⟨r35, rfl, h⟩
 refine Zt u30 ?_
 exact Yj I3 r35 h
 refine Zk u30 (Zk u30 (Zk u30 (Zk u30 (Zk u30 (Zn u30 ?_)))))
 exact Yj I3 false h
 intro b27 H37 h
 replace h := hR29 b27 H37 h
 refine Za (GL.nil ?_)
 exact Y1 I3 ⟨b27, rfl, h⟩
def Q9 (C : Ctx) (p_s1 : Sl) (p_s2 : Sl) (p_eq : Value) (K : Bool → Heap → Prop) (H : Heap) : Prop :=
 ift (((Sl.len p_s1 : Int) : Int) != (Sl.len p_s2 : Int))
 (K false H)
 (lp (α := Int) 0 H (fun x2 J3 H4 =>
 ift (decide ((x2 : Int) < (Sl.len p_s1 : Int)))
 (ixa p_s1 x2 fun p6 =>
 ldT H4 Ql.c (p6.1, p6.2 + (x2 : Int).toNat * 6) fun x11 =>
 nw (Ql.c Ql.zero) (fun b13 H14 =>
 stT (b13, 0) (Ql.c x11) (fun H15 =>
 ixa p_s2 x2 fun p16 =>
 ldT H15 Ql.c (p16.1, p16.2 + (x2 : Int).toNat * 6) fun x21 =>
 nw (Ql.c Ql.zero) (fun b23 H24 =>
 stT (b23, 0) (Ql.c x21) (fun H25 =>
 ldT H25 Ql.c (b13, 0) fun x26 =>
 ldT H25 Ql.c (b23, 0) fun x28 =>
 callU Tryz.prog C p_eq [.agg (Ql.c x26).toArray, .agg (Ql.c x28).toArray] H25 (fun v H31 => ∃ (r30 : Bool), v = .bool r30 ∧
 ift (!r30)
 (K false H31)
 (J3 (w .i64 (x2 + 1)) H31))) H24) H15) H14) H4)
 (K true H4)))
theorem Qbt (C p_s1 p_s2 p_eq K H) (h : Q9 C p_s1 p_s2 p_eq K H) : QA C p_s1 p_s2 p_eq K H := by
 refine Ye Tryz.func79 rfl Tryz.ntmps79 [(0, slv p_s1), (1, slv p_s2), (2, p_eq)] (Zo (Za (GL.nil (GC.seq (Zo (Zm (Zq (Zm (Zq (Zi (.bool (((Sl.len p_s1 : Int) : Int) != (Sl.len p_s2 : Int))) (GL.nil (Yd h (fun u1 h => ?_) fun u1 h => ?_))))))))))))
 refine Zo (Za (GL.nil ?_))
 exact Y1 I3 ⟨false, rfl, h⟩
 refine GC.skip (GC.seq (Zo (Zm (Zq (Zm (GL.nil (GC.block (Yp h (fun x2 => [(17, .int .i64 x2), (1, slv p_s2), (2, p_eq), (15, slv p_s1), (16, .int .i64 (Sl.len p_s1 : Int))]) ?_))))))))
 intro x2 H4 J3 h
 refine Zo (Zi (.bool (decide ((x2 : Int) < (Sl.len p_s1 : Int)))) (GL.nil (GC.seq (Yd h (fun u5 h => ?_) fun u5 h => ?_))))
 refine GC.skip (GC.seq (GC.block (Zo (Zm (Yx h fun p6 h => ?_)))))
 obtain ⟨x11, v12, h⟩ := h
 refine Zv (OV.loadT rfl rfl rfl v12) (GL.alloc (cs := Ql.c Ql.zero) h trivial rfl rfl rfl ?_)
 intro b13 H14 h
 refine Za (GL.storeT (p := (b13, 0)) (vs := Ql.c x11) h trivial rfl rfl rfl rfl ?_)
 intro H15 h
 refine GL.nil (Zo (Zm (Zm (Yx h fun p16 h => ?_))))
 obtain ⟨x21, v22, h⟩ := h
 refine Zv (OV.loadT rfl rfl rfl v22) (GL.alloc (cs := Ql.c Ql.zero) h trivial rfl rfl rfl ?_)
 intro b23 H24 h
 refine GL.storeT (p := (b23, 0)) (vs := Ql.c x21) h trivial rfl rfl rfl rfl ?_
 intro H25 h
 refine GL.nil (Zo (Zm ?_))
 obtain ⟨x26, v27, h⟩ := h
 refine Zv (OV.loadT rfl rfl rfl v27) ?_
 obtain ⟨x28, v29, h⟩ := h
 refine Zv (OV.loadT rfl rfl rfl v29) (GL.callU (xv := p_eq) (vs := [.agg (Ql.c x26).toArray, .agg (Ql.c x28).toArray]) h trivial rfl rfl rfl ?_)
 rintro _ H31 ⟨r30, rfl, h⟩
 refine Zv (OV.not rfl) (GL.nil (Yd h (fun u32 h => ?_) fun u32 h => ?_))
 refine Zo (Za (GL.nil ?_))
 exact Y1 I3 ⟨false, rfl, h⟩
 refine GC.skip_to (fun _ _ h => h) (GC.region (Zi (.int .i64 (w .i64 (x2 + 1))) (Zm ?_)))
 exact Yj I3 (w .i64 (x2 + 1)) h
 refine GC.exit_to (fun _ _ h => h) (Zo (Za (GL.nil ?_)))
 exact Y1 I3 ⟨true, rfl, h⟩
def Qj7 (C : Ctx) (p_x : Ql) (p_y : Ql) (K : Bool → Heap → Prop) (H : Heap) : Prop :=
 nw (Ql.c p_x) (fun b1 H2 =>
 nw (Ql.c p_y) (fun b3 H4 =>
 ldS H4 ((b1, 0).1, (b1, 0).2 + 2) fun x5 =>
 ldS H4 ((b3, 0).1, (b3, 0).2 + 2) fun x7 =>
 jn (α := Bool) (fun b9 H19 =>
 jn (α := Bool) (fun b20 H30 =>
 jn (α := Bool) (fun b31 H41 =>
 K b31 H41)
 (fun J32 => ift b20
 (ldL H30 ((b1, 0).1, (b1, 0).2 + 5) fun x35 =>
 ldL H30 ((b3, 0).1, (b3, 0).2 + 5) fun x37 =>
 Qs C x35 x37 (.func (.func 84) (List.toArray []) (List.toArray []) : Value) (fun r39 H40 =>
 J32 r39 H40) H30)
 (J32 false H30)))
 (fun J21 => ift b9
 (ldL H19 ((b1, 0).1, (b1, 0).2 + 4) fun x24 =>
 ldL H19 ((b3, 0).1, (b3, 0).2 + 4) fun x26 =>
 QaG C x24 x26 (fun r28 H29 =>
 J21 r28 H29) H19)
 (J21 false H19)))
 (fun J10 => ift (x5 == x7)
 (ldL H4 ((b1, 0).1, (b1, 0).2 + 3) fun x13 =>
 ldL H4 ((b3, 0).1, (b3, 0).2 + 3) fun x15 =>
 Qt C x13 x15 (.func (.func 82) (List.toArray []) (List.toArray []) : Value) (fun r17 H18 =>
 J10 r17 H18) H4)
 (J10 false H4))) H2) H
theorem QmQ (C p_x p_y K H) (h : Qj7 C p_x p_y K H) : QdI C p_x p_y K H := by
 refine Ye Tryz.func80 rfl Tryz.ntmps80 [(0, .agg (Ql.c p_x).toArray), (1, .agg (Ql.c p_y).toArray)] (Zo (GL.box (v := .agg (Ql.c p_x).toArray) (cs := Ql.c p_x) h trivial rfl rfl rfl ?_))
 intro b1 H2 h
 refine GL.box (v := .agg (Ql.c p_y).toArray) (cs := Ql.c p_y) h trivial rfl rfl rfl ?_
 intro b3 H4 h
 refine Za (GL.nil (Zo (Zf (Yl h fun x5 h => ?_))))
 refine Zf (Yl h fun x7 h => ?_)
 refine Zv (OV.sbin (a := x5) (b := x7) (v := .bool (x5 == x7)) rfl rfl rfl) (Zm ?_)
 obtain ⟨J10, h, hR11⟩ := h
 refine GL.cut (α := Bool) 6 J10 (fun b9 => [(16, .bool b9), (2, pv (some (b1, 0))), (3, pv (some (b3, 0)))]) ?_ ?_
 rcases h.em with ⟨u12, h⟩ | ⟨u12, h⟩
 refine Zu u12 Yf ?_
 obtain ⟨x13, v14, h⟩ := h
 refine Zu u12 (Yo v14) (Zu u12 Yf ?_)
 obtain ⟨x15, v16, h⟩ := h
 refine Zu u12 (Yo v16) (GL.call h (Yt u12) rfl QJ (vs := [slv x13, slv x15, .func (.func 82) (List.toArray []) (List.toArray [])]) rfl ?_)
 rintro _ H18 ⟨r17, rfl, h⟩
 refine Zt u12 ?_
 exact Yj I3 r17 h
 refine Zk u12 (Zk u12 (Zk u12 (Zk u12 (Zk u12 (Zn u12 ?_)))))
 exact Yj I3 false h
 intro b9 H19 h
 replace h := hR11 b9 H19 h
 refine Zm ?_
 obtain ⟨J21, h, hR22⟩ := h
 refine GL.cut (α := Bool) 6 J21 (fun b20 => [(23, .bool b20), (2, pv (some (b1, 0))), (3, pv (some (b3, 0)))]) ?_ ?_
 rcases h.em with ⟨u23, h⟩ | ⟨u23, h⟩
 refine Zu u23 Yf ?_
 obtain ⟨x24, v25, h⟩ := h
 refine Zu u23 (Yo v25) (Zu u23 Yf ?_)
 obtain ⟨x26, v27, h⟩ := h
 refine Zu u23 (Yo v27) (GL.call h (Yt u23) rfl QcP (vs := [slv x24, slv x26]) rfl ?_)
 rintro _ H29 ⟨r28, rfl, h⟩
 refine Zt u23 ?_
 exact Yj I3 r28 h
 refine Zk u23 (Zk u23 (Zk u23 (Zk u23 (Zk u23 (Zn u23 ?_)))))
 exact Yj I3 false h
 intro b20 H30 h
 replace h := hR22 b20 H30 h
 refine Zm ?_
 obtain ⟨J32, h, hR33⟩ := h
 refine GL.cut (α := Bool) 6 J32 (fun b31 => [(30, .bool b31)]) ?_ ?_
 rcases h.em with ⟨u34, h⟩ | ⟨u34, h⟩
 refine Zu u34 Yf ?_
 obtain ⟨x35, v36, h⟩ := h
 refine Zu u34 (Yo v36) (Zu u34 Yf ?_)
 obtain ⟨x37, v38, h⟩ := h
 refine Zu u34 (Yo v38) (GL.call h (Yt u34) rfl QN (vs := [slv x35, slv x37, .func (.func 84) (List.toArray []) (List.toArray [])]) rfl ?_)
 rintro _ H40 ⟨r39, rfl, h⟩
 refine Zt u34 ?_
 exact Yj I3 r39 h
 refine Zk u34 (Zk u34 (Zk u34 (Zk u34 (Zk u34 (Zn u34 ?_)))))
 exact Yj I3 false h
 intro b31 H41 h
 replace h := hR33 b31 H41 h
 refine Za (GL.nil ?_)
 exact Y1 I3 ⟨b31, rfl, h⟩
def Q8 (C : Ctx) (p_s1 : Sl) (p_s2 : Sl) (p_eq : Value) (K : Bool → Heap → Prop) (H : Heap) : Prop :=
 ift (((Sl.len p_s1 : Int) : Int) != (Sl.len p_s2 : Int))
 (K false H)
 (lp (α := Int) 0 H (fun x2 J3 H4 =>
 ift (decide ((x2 : Int) < (Sl.len p_s1 : Int)))
 (ixa p_s1 x2 fun p6 =>
 ldT H4 Qa.c (p6.1, p6.2 + (x2 : Int).toNat * 9) fun x11 =>
 nw (Qa.c Qa.zero) (fun b13 H14 =>
 stT (b13, 0) (Qa.c x11) (fun H15 =>
 ixa p_s2 x2 fun p16 =>
 ldT H15 Qa.c (p16.1, p16.2 + (x2 : Int).toNat * 9) fun x21 =>
 nw (Qa.c Qa.zero) (fun b23 H24 =>
 stT (b23, 0) (Qa.c x21) (fun H25 =>
 ldT H25 Qa.c (b13, 0) fun x26 =>
 ldT H25 Qa.c (b23, 0) fun x28 =>
 callU Tryz.prog C p_eq [.agg (Qa.c x26).toArray, .agg (Qa.c x28).toArray] H25 (fun v H31 => ∃ (r30 : Bool), v = .bool r30 ∧
 ift (!r30)
 (K false H31)
 (J3 (w .i64 (x2 + 1)) H31))) H24) H15) H14) H4)
 (K true H4)))
theorem Qbs (C p_s1 p_s2 p_eq K H) (h : Q8 C p_s1 p_s2 p_eq K H) : Qt C p_s1 p_s2 p_eq K H := by
 refine Ye Tryz.func81 rfl Tryz.ntmps81 [(0, slv p_s1), (1, slv p_s2), (2, p_eq)] (Zo (Za (GL.nil (GC.seq (Zo (Zm (Zq (Zm (Zq (Zi (.bool (((Sl.len p_s1 : Int) : Int) != (Sl.len p_s2 : Int))) (GL.nil (Yd h (fun u1 h => ?_) fun u1 h => ?_))))))))))))
 refine Zo (Za (GL.nil ?_))
 exact Y1 I3 ⟨false, rfl, h⟩
 refine GC.skip (GC.seq (Zo (Zm (Zq (Zm (GL.nil (GC.block (Yp h (fun x2 => [(17, .int .i64 x2), (1, slv p_s2), (2, p_eq), (15, slv p_s1), (16, .int .i64 (Sl.len p_s1 : Int))]) ?_))))))))
 intro x2 H4 J3 h
 refine Zo (Zi (.bool (decide ((x2 : Int) < (Sl.len p_s1 : Int)))) (GL.nil (GC.seq (Yd h (fun u5 h => ?_) fun u5 h => ?_))))
 refine GC.skip (GC.seq (GC.block (Zo (Zm (Yx h fun p6 h => ?_)))))
 obtain ⟨x11, v12, h⟩ := h
 refine Zv (OV.loadT rfl rfl rfl v12) (GL.alloc (cs := Qa.c Qa.zero) h trivial rfl rfl rfl ?_)
 intro b13 H14 h
 refine Za (GL.storeT (p := (b13, 0)) (vs := Qa.c x11) h trivial rfl rfl rfl rfl ?_)
 intro H15 h
 refine GL.nil (Zo (Zm (Zm (Yx h fun p16 h => ?_))))
 obtain ⟨x21, v22, h⟩ := h
 refine Zv (OV.loadT rfl rfl rfl v22) (GL.alloc (cs := Qa.c Qa.zero) h trivial rfl rfl rfl ?_)
 intro b23 H24 h
 refine GL.storeT (p := (b23, 0)) (vs := Qa.c x21) h trivial rfl rfl rfl rfl ?_
 intro H25 h
 refine GL.nil (Zo (Zm ?_))
 obtain ⟨x26, v27, h⟩ := h
 refine Zv (OV.loadT rfl rfl rfl v27) ?_
 obtain ⟨x28, v29, h⟩ := h
 refine Zv (OV.loadT rfl rfl rfl v29) (GL.callU (xv := p_eq) (vs := [.agg (Qa.c x26).toArray, .agg (Qa.c x28).toArray]) h trivial rfl rfl rfl ?_)
 rintro _ H31 ⟨r30, rfl, h⟩
 refine Zv (OV.not rfl) (GL.nil (Yd h (fun u32 h => ?_) fun u32 h => ?_))
 refine Zo (Za (GL.nil ?_))
 exact Y1 I3 ⟨false, rfl, h⟩
 refine GC.skip_to (fun _ _ h => h) (GC.region (Zi (.int .i64 (w .i64 (x2 + 1))) (Zm ?_)))
 exact Yj I3 (w .i64 (x2 + 1)) h
 refine GC.exit_to (fun _ _ h => h) (Zo (Za (GL.nil ?_)))
 exact Y1 I3 ⟨true, rfl, h⟩
def Qit (C : Ctx) (p_a : Qa) (p_b : Qa) (K : Bool → Heap → Prop) (H : Heap) : Prop :=
 nw (Qa.c p_a) (fun b1 H2 =>
 nw (Qa.c p_b) (fun b3 H4 =>
 ldI H4 .u8 ((b1, 0).1, (b1, 0).2 + 0) fun x5 =>
 ldI H4 .u8 ((b3, 0).1, (b3, 0).2 + 0) fun x7 =>
 jn (α := Bool) (fun b9 H17 =>
 jn (α := Bool) (fun b18 H28 =>
 jn (α := Bool) (fun b29 H39 =>
 K b29 H39)
 (fun J30 => ift b18
 (ldL H28 ((b1, 0).1, (b1, 0).2 + 8) fun x33 =>
 ldL H28 ((b3, 0).1, (b3, 0).2 + 8) fun x35 =>
 Qt C x33 x35 (.func (.func 82) (List.toArray []) (List.toArray []) : Value) (fun r37 H38 =>
 J30 r37 H38) H28)
 (J30 false H28)))
 (fun J19 => ift b9
 (ldT H17 Qd.c ((b1, 0).1, (b1, 0).2 + 4) fun x22 =>
 ldT H17 Qd.c ((b3, 0).1, (b3, 0).2 + 4) fun x24 =>
 Qbv C x22 x24 (fun r26 H27 =>
 J19 r26 H27) H17)
 (J19 false H17)))
 (fun J10 => ift ((x5 : Int) == x7)
 (ldS H4 ((b1, 0).1, (b1, 0).2 + 3) fun x13 =>
 ldS H4 ((b3, 0).1, (b3, 0).2 + 3) fun x15 =>
 J10 (x13 == x15) H4)
 (J10 false H4))) H2) H
theorem QlH (C p_a p_b K H) (h : Qit C p_a p_b K H) : Qco C p_a p_b K H := by
 refine Ye Tryz.func82 rfl Tryz.ntmps82 [(0, .agg (Qa.c p_a).toArray), (1, .agg (Qa.c p_b).toArray)] (Zo (GL.box (v := .agg (Qa.c p_a).toArray) (cs := Qa.c p_a) h trivial rfl rfl rfl ?_))
 intro b1 H2 h
 refine GL.box (v := .agg (Qa.c p_b).toArray) (cs := Qa.c p_b) h trivial rfl rfl rfl ?_
 intro b3 H4 h
 refine Za (GL.nil (Zo (Zf (Yl h fun x5 h => ?_))))
 refine Zf (Yl h fun x7 h => ?_)
 refine Zi (.bool ((x5 : Int) == x7)) (Zm ?_)
 obtain ⟨J10, h, hR11⟩ := h
 refine GL.cut (α := Bool) 6 J10 (fun b9 => [(16, .bool b9), (2, pv (some (b1, 0))), (3, pv (some (b3, 0)))]) ?_ ?_
 rcases h.em with ⟨u12, h⟩ | ⟨u12, h⟩
 refine Zu u12 Yf ?_
 obtain ⟨x13, v14, h⟩ := h
 refine Zu u12 (Yo v14) (Zu u12 Yf ?_)
 obtain ⟨x15, v16, h⟩ := h
 refine Zu u12 (Yo v16) (Zu u12 (OV.sbin (a := x13) (b := x15) (v := .bool (x13 == x15)) rfl rfl rfl) (Zt u12 ?_))
 exact Yj I3 (x13 == x15) h
 refine Zk u12 (Zk u12 (Zk u12 (Zk u12 (Zk u12 (Zn u12 ?_)))))
 exact Yj I3 false h
 intro b9 H17 h
 replace h := hR11 b9 H17 h
 refine Zm ?_
 obtain ⟨J19, h, hR20⟩ := h
 refine GL.cut (α := Bool) 6 J19 (fun b18 => [(23, .bool b18), (2, pv (some (b1, 0))), (3, pv (some (b3, 0)))]) ?_ ?_
 rcases h.em with ⟨u21, h⟩ | ⟨u21, h⟩
 refine Zu u21 Yf ?_
 obtain ⟨x22, v23, h⟩ := h
 refine Zu u21 (OV.loadT rfl rfl rfl v23) (Zu u21 Yf ?_)
 obtain ⟨x24, v25, h⟩ := h
 refine Zu u21 (OV.loadT rfl rfl rfl v25) (GL.call h (Yt u21) rfl QhH (vs := [.agg (Qd.c x22).toArray, .agg (Qd.c x24).toArray]) rfl ?_)
 rintro _ H27 ⟨r26, rfl, h⟩
 refine Zt u21 ?_
 exact Yj I3 r26 h
 refine Zk u21 (Zk u21 (Zk u21 (Zk u21 (Zk u21 (Zn u21 ?_)))))
 exact Yj I3 false h
 intro b18 H28 h
 replace h := hR20 b18 H28 h
 refine Zm ?_
 obtain ⟨J30, h, hR31⟩ := h
 refine GL.cut (α := Bool) 6 J30 (fun b29 => [(30, .bool b29)]) ?_ ?_
 rcases h.em with ⟨u32, h⟩ | ⟨u32, h⟩
 refine Zu u32 Yf ?_
 obtain ⟨x33, v34, h⟩ := h
 refine Zu u32 (Yo v34) (Zu u32 Yf ?_)
 obtain ⟨x35, v36, h⟩ := h
 refine Zu u32 (Yo v36) (GL.call h (Yt u32) rfl QJ (vs := [slv x33, slv x35, .func (.func 82) (List.toArray []) (List.toArray [])]) rfl ?_)
 rintro _ H38 ⟨r37, rfl, h⟩
 refine Zt u32 ?_
 exact Yj I3 r37 h
 refine Zk u32 (Zk u32 (Zk u32 (Zk u32 (Zk u32 (Zn u32 ?_)))))
 exact Yj I3 false h
 intro b29 H39 h
 replace h := hR31 b29 H39 h
 refine Za (GL.nil ?_)
 exact Y1 I3 ⟨b29, rfl, h⟩
def QP (C : Ctx) (p_s1 : Sl) (p_s2 : Sl) (p_eq : Value) (K : Bool → Heap → Prop) (H : Heap) : Prop :=
 ift (((Sl.len p_s1 : Int) : Int) != (Sl.len p_s2 : Int))
 (K false H)
 (lp (α := Int) 0 H (fun x2 J3 H4 =>
 ift (decide ((x2 : Int) < (Sl.len p_s1 : Int)))
 (ixa p_s1 x2 fun p6 =>
 ldT H4 Qc.c (p6.1, p6.2 + (x2 : Int).toNat * 5) fun x11 =>
 nw (Qc.c Qc.zero) (fun b13 H14 =>
 stT (b13, 0) (Qc.c x11) (fun H15 =>
 ixa p_s2 x2 fun p16 =>
 ldT H15 Qc.c (p16.1, p16.2 + (x2 : Int).toNat * 5) fun x21 =>
 nw (Qc.c Qc.zero) (fun b23 H24 =>
 stT (b23, 0) (Qc.c x21) (fun H25 =>
 ldT H25 Qc.c (b13, 0) fun x26 =>
 ldT H25 Qc.c (b23, 0) fun x28 =>
 callU Tryz.prog C p_eq [.agg (Qc.c x26).toArray, .agg (Qc.c x28).toArray] H25 (fun v H31 => ∃ (r30 : Bool), v = .bool r30 ∧
 ift (!r30)
 (K false H31)
 (J3 (w .i64 (x2 + 1)) H31))) H24) H15) H14) H4)
 (K true H4)))
theorem Qaw (C p_s1 p_s2 p_eq K H) (h : QP C p_s1 p_s2 p_eq K H) : Qs C p_s1 p_s2 p_eq K H := by
 refine Ye Tryz.func83 rfl Tryz.ntmps83 [(0, slv p_s1), (1, slv p_s2), (2, p_eq)] (Zo (Za (GL.nil (GC.seq (Zo (Zm (Zq (Zm (Zq (Zi (.bool (((Sl.len p_s1 : Int) : Int) != (Sl.len p_s2 : Int))) (GL.nil (Yd h (fun u1 h => ?_) fun u1 h => ?_))))))))))))
 refine Zo (Za (GL.nil ?_))
 exact Y1 I3 ⟨false, rfl, h⟩
 refine GC.skip (GC.seq (Zo (Zm (Zq (Zm (GL.nil (GC.block (Yp h (fun x2 => [(17, .int .i64 x2), (1, slv p_s2), (2, p_eq), (15, slv p_s1), (16, .int .i64 (Sl.len p_s1 : Int))]) ?_))))))))
 intro x2 H4 J3 h
 refine Zo (Zi (.bool (decide ((x2 : Int) < (Sl.len p_s1 : Int)))) (GL.nil (GC.seq (Yd h (fun u5 h => ?_) fun u5 h => ?_))))
 refine GC.skip (GC.seq (GC.block (Zo (Zm (Yx h fun p6 h => ?_)))))
 obtain ⟨x11, v12, h⟩ := h
 refine Zv (OV.loadT rfl rfl rfl v12) (GL.alloc (cs := Qc.c Qc.zero) h trivial rfl rfl rfl ?_)
 intro b13 H14 h
 refine Za (GL.storeT (p := (b13, 0)) (vs := Qc.c x11) h trivial rfl rfl rfl rfl ?_)
 intro H15 h
 refine GL.nil (Zo (Zm (Zm (Yx h fun p16 h => ?_))))
 obtain ⟨x21, v22, h⟩ := h
 refine Zv (OV.loadT rfl rfl rfl v22) (GL.alloc (cs := Qc.c Qc.zero) h trivial rfl rfl rfl ?_)
 intro b23 H24 h
 refine GL.storeT (p := (b23, 0)) (vs := Qc.c x21) h trivial rfl rfl rfl rfl ?_
 intro H25 h
 refine GL.nil (Zo (Zm ?_))
 obtain ⟨x26, v27, h⟩ := h
 refine Zv (OV.loadT rfl rfl rfl v27) ?_
 obtain ⟨x28, v29, h⟩ := h
 refine Zv (OV.loadT rfl rfl rfl v29) (GL.callU (xv := p_eq) (vs := [.agg (Qc.c x26).toArray, .agg (Qc.c x28).toArray]) h trivial rfl rfl rfl ?_)
 rintro _ H31 ⟨r30, rfl, h⟩
 refine Zv (OV.not rfl) (GL.nil (Yd h (fun u32 h => ?_) fun u32 h => ?_))
 refine Zo (Za (GL.nil ?_))
 exact Y1 I3 ⟨false, rfl, h⟩
 refine GC.skip_to (fun _ _ h => h) (GC.region (Zi (.int .i64 (w .i64 (x2 + 1))) (Zm ?_)))
 exact Yj I3 (w .i64 (x2 + 1)) h
 refine GC.exit_to (fun _ _ h => h) (Zo (Za (GL.nil ?_)))
 exact Y1 I3 ⟨true, rfl, h⟩
def Qgw (C : Ctx) (p_a : Qc) (p_b : Qc) (K : Bool → Heap → Prop) (H : Heap) : Prop :=
 nw (Qc.c p_a) (fun b1 H2 =>
 nw (Qc.c p_b) (fun b3 H4 =>
 ldI H4 .u8 ((b1, 0).1, (b1, 0).2 + 0) fun x5 =>
 ldI H4 .u8 ((b3, 0).1, (b3, 0).2 + 0) fun x7 =>
 jn (α := Bool) (fun b9 H17 =>
 jn (α := Bool) (fun b18 H28 =>
 K b18 H28)
 (fun J19 => ift b9
 (ldL H17 ((b1, 0).1, (b1, 0).2 + 4) fun x22 =>
 ldL H17 ((b3, 0).1, (b3, 0).2 + 4) fun x24 =>
 Qt C x22 x24 (.func (.func 82) (List.toArray []) (List.toArray []) : Value) (fun r26 H27 =>
 J19 r26 H27) H17)
 (J19 false H17)))
 (fun J10 => ift ((x5 : Int) == x7)
 (ldS H4 ((b1, 0).1, (b1, 0).2 + 3) fun x13 =>
 ldS H4 ((b3, 0).1, (b3, 0).2 + 3) fun x15 =>
 J10 (x13 == x15) H4)
 (J10 false H4))) H2) H
theorem Qkn (C p_a p_b K H) (h : Qgw C p_a p_b K H) : Qbr C p_a p_b K H := by
 refine Ye Tryz.func84 rfl Tryz.ntmps84 [(0, .agg (Qc.c p_a).toArray), (1, .agg (Qc.c p_b).toArray)] (Zo (GL.box (v := .agg (Qc.c p_a).toArray) (cs := Qc.c p_a) h trivial rfl rfl rfl ?_))
 intro b1 H2 h
 refine GL.box (v := .agg (Qc.c p_b).toArray) (cs := Qc.c p_b) h trivial rfl rfl rfl ?_
 intro b3 H4 h
 refine Za (GL.nil (Zo (Zf (Yl h fun x5 h => ?_))))
 refine Zf (Yl h fun x7 h => ?_)
 refine Zi (.bool ((x5 : Int) == x7)) (Zm ?_)
 obtain ⟨J10, h, hR11⟩ := h
 refine GL.cut (α := Bool) 6 J10 (fun b9 => [(16, .bool b9), (2, pv (some (b1, 0))), (3, pv (some (b3, 0)))]) ?_ ?_
 rcases h.em with ⟨u12, h⟩ | ⟨u12, h⟩
 refine Zu u12 Yf ?_
 obtain ⟨x13, v14, h⟩ := h
 refine Zu u12 (Yo v14) (Zu u12 Yf ?_)
 obtain ⟨x15, v16, h⟩ := h
 refine Zu u12 (Yo v16) (Zu u12 (OV.sbin (a := x13) (b := x15) (v := .bool (x13 == x15)) rfl rfl rfl) (Zt u12 ?_))
 exact Yj I3 (x13 == x15) h
 refine Zk u12 (Zk u12 (Zk u12 (Zk u12 (Zk u12 (Zn u12 ?_)))))
 exact Yj I3 false h
 intro b9 H17 h
 replace h := hR11 b9 H17 h
 refine Zm ?_
 obtain ⟨J19, h, hR20⟩ := h
 refine GL.cut (α := Bool) 6 J19 (fun b18 => [(23, .bool b18)]) ?_ ?_
 rcases h.em with ⟨u21, h⟩ | ⟨u21, h⟩
 refine Zu u21 Yf ?_
 obtain ⟨x22, v23, h⟩ := h
 refine Zu u21 (Yo v23) (Zu u21 Yf ?_)
 obtain ⟨x24, v25, h⟩ := h
 refine Zu u21 (Yo v25) (GL.call h (Yt u21) rfl QJ (vs := [slv x22, slv x24, .func (.func 82) (List.toArray []) (List.toArray [])]) rfl ?_)
 rintro _ H27 ⟨r26, rfl, h⟩
 refine Zt u21 ?_
 exact Yj I3 r26 h
 refine Zk u21 (Zk u21 (Zk u21 (Zk u21 (Zk u21 (Zn u21 ?_)))))
 exact Yj I3 false h
 intro b18 H28 h
 replace h := hR20 b18 H28 h
 refine Za (GL.nil ?_)
 exact Y1 I3 ⟨b18, rfl, h⟩
def Q1 (C : Ctx) (p_s1 : Sl) (p_s2 : Sl) (p_eq : Value) (K : Bool → Heap → Prop) (H : Heap) : Prop :=
 ift (((Sl.len p_s1 : Int) : Int) != (Sl.len p_s2 : Int))
 (K false H)
 (lp (α := Int) 0 H (fun x2 J3 H4 =>
 ift (decide ((x2 : Int) < (Sl.len p_s1 : Int)))
 (ixa p_s1 x2 fun p6 =>
 ldT H4 Qi.c (p6.1, p6.2 + (x2 : Int).toNat * 4) fun x11 =>
 nw (Qi.c Qi.zero) (fun b13 H14 =>
 stT (b13, 0) (Qi.c x11) (fun H15 =>
 ixa p_s2 x2 fun p16 =>
 ldT H15 Qi.c (p16.1, p16.2 + (x2 : Int).toNat * 4) fun x21 =>
 nw (Qi.c Qi.zero) (fun b23 H24 =>
 stT (b23, 0) (Qi.c x21) (fun H25 =>
 ldT H25 Qi.c (b13, 0) fun x26 =>
 ldT H25 Qi.c (b23, 0) fun x28 =>
 callU Tryz.prog C p_eq [.agg (Qi.c x26).toArray, .agg (Qi.c x28).toArray] H25 (fun v H31 => ∃ (r30 : Bool), v = .bool r30 ∧
 ift (!r30)
 (K false H31)
 (J3 (w .i64 (x2 + 1)) H31))) H24) H15) H14) H4)
 (K true H4)))
theorem Qa7 (C p_s1 p_s2 p_eq K H) (h : Q1 C p_s1 p_s2 p_eq K H) : Qy C p_s1 p_s2 p_eq K H := by
 refine Ye Tryz.func85 rfl Tryz.ntmps85 [(0, slv p_s1), (1, slv p_s2), (2, p_eq)] (Zo (Za (GL.nil (GC.seq (Zo (Zm (Zq (Zm (Zq (Zi (.bool (((Sl.len p_s1 : Int) : Int) != (Sl.len p_s2 : Int))) (GL.nil (Yd h (fun u1 h => ?_) fun u1 h => ?_))))))))))))
 refine Zo (Za (GL.nil ?_))
 exact Y1 I3 ⟨false, rfl, h⟩
 refine GC.skip (GC.seq (Zo (Zm (Zq (Zm (GL.nil (GC.block (Yp h (fun x2 => [(17, .int .i64 x2), (1, slv p_s2), (2, p_eq), (15, slv p_s1), (16, .int .i64 (Sl.len p_s1 : Int))]) ?_))))))))
 intro x2 H4 J3 h
 refine Zo (Zi (.bool (decide ((x2 : Int) < (Sl.len p_s1 : Int)))) (GL.nil (GC.seq (Yd h (fun u5 h => ?_) fun u5 h => ?_))))
 refine GC.skip (GC.seq (GC.block (Zo (Zm (Yx h fun p6 h => ?_)))))
 obtain ⟨x11, v12, h⟩ := h
 refine Zv (OV.loadT rfl rfl rfl v12) (GL.alloc (cs := Qi.c Qi.zero) h trivial rfl rfl rfl ?_)
 intro b13 H14 h
 refine Za (GL.storeT (p := (b13, 0)) (vs := Qi.c x11) h trivial rfl rfl rfl rfl ?_)
 intro H15 h
 refine GL.nil (Zo (Zm (Zm (Yx h fun p16 h => ?_))))
 obtain ⟨x21, v22, h⟩ := h
 refine Zv (OV.loadT rfl rfl rfl v22) (GL.alloc (cs := Qi.c Qi.zero) h trivial rfl rfl rfl ?_)
 intro b23 H24 h
 refine GL.storeT (p := (b23, 0)) (vs := Qi.c x21) h trivial rfl rfl rfl rfl ?_
 intro H25 h
 refine GL.nil (Zo (Zm ?_))
 obtain ⟨x26, v27, h⟩ := h
 refine Zv (OV.loadT rfl rfl rfl v27) ?_
 obtain ⟨x28, v29, h⟩ := h
 refine Zv (OV.loadT rfl rfl rfl v29) (GL.callU (xv := p_eq) (vs := [.agg (Qi.c x26).toArray, .agg (Qi.c x28).toArray]) h trivial rfl rfl rfl ?_)
 rintro _ H31 ⟨r30, rfl, h⟩
 refine Zv (OV.not rfl) (GL.nil (Yd h (fun u32 h => ?_) fun u32 h => ?_))
 refine Zo (Za (GL.nil ?_))
 exact Y1 I3 ⟨false, rfl, h⟩
 refine GC.skip_to (fun _ _ h => h) (GC.region (Zi (.int .i64 (w .i64 (x2 + 1))) (Zm ?_)))
 exact Yj I3 (w .i64 (x2 + 1)) h
 refine GC.exit_to (fun _ _ h => h) (Zo (Za (GL.nil ?_)))
 exact Y1 I3 ⟨true, rfl, h⟩
def Qj8 (C : Ctx) (p_x : Qi) (p_y : Qi) (K : Bool → Heap → Prop) (H : Heap) : Prop :=
 nw (Qi.c p_x) (fun b1 H2 =>
 nw (Qi.c p_y) (fun b3 H4 =>
 ldS H4 ((b1, 0).1, (b1, 0).2 + 2) fun x5 =>
 ldS H4 ((b3, 0).1, (b3, 0).2 + 2) fun x7 =>
 jn (α := Bool) (fun b9 H19 =>
 K b9 H19)
 (fun J10 => ift (x5 == x7)
 (ldL H4 ((b1, 0).1, (b1, 0).2 + 3) fun x13 =>
 ldL H4 ((b3, 0).1, (b3, 0).2 + 3) fun x15 =>
 Qs C x13 x15 (.func (.func 84) (List.toArray []) (List.toArray []) : Value) (fun r17 H18 =>
 J10 r17 H18) H4)
 (J10 false H4))) H2) H
theorem QmR (C p_x p_y K H) (h : Qj8 C p_x p_y K H) : QdJ C p_x p_y K H := by
 refine Ye Tryz.func86 rfl Tryz.ntmps86 [(0, .agg (Qi.c p_x).toArray), (1, .agg (Qi.c p_y).toArray)] (Zo (GL.box (v := .agg (Qi.c p_x).toArray) (cs := Qi.c p_x) h trivial rfl rfl rfl ?_))
 intro b1 H2 h
 refine GL.box (v := .agg (Qi.c p_y).toArray) (cs := Qi.c p_y) h trivial rfl rfl rfl ?_
 intro b3 H4 h
 refine Za (GL.nil (Zo (Zf (Yl h fun x5 h => ?_))))
 refine Zf (Yl h fun x7 h => ?_)
 refine Zv (OV.sbin (a := x5) (b := x7) (v := .bool (x5 == x7)) rfl rfl rfl) (Zm ?_)
 obtain ⟨J10, h, hR11⟩ := h
 refine GL.cut (α := Bool) 6 J10 (fun b9 => [(16, .bool b9)]) ?_ ?_
 rcases h.em with ⟨u12, h⟩ | ⟨u12, h⟩
 refine Zu u12 Yf ?_
 obtain ⟨x13, v14, h⟩ := h
 refine Zu u12 (Yo v14) (Zu u12 Yf ?_)
 obtain ⟨x15, v16, h⟩ := h
 refine Zu u12 (Yo v16) (GL.call h (Yt u12) rfl QN (vs := [slv x13, slv x15, .func (.func 84) (List.toArray []) (List.toArray [])]) rfl ?_)
 rintro _ H18 ⟨r17, rfl, h⟩
 refine Zt u12 ?_
 exact Yj I3 r17 h
 refine Zk u12 (Zk u12 (Zk u12 (Zk u12 (Zk u12 (Zn u12 ?_)))))
 exact Yj I3 false h
 intro b9 H19 h
 replace h := hR11 b9 H19 h
 refine Za (GL.nil ?_)
 exact Y1 I3 ⟨b9, rfl, h⟩
def QkZ (C : Ctx) (p_e : Qa) (K : Int → Heap → Prop) (H : Heap) : Prop :=
 nw (Qa.c p_e) (fun b1 H2 =>
 ldL H2 ((b1, 0).1, (b1, 0).2 + 8) fun x3 =>
 QI C x3 (.func (.func 91) (List.toArray []) (List.toArray []) : Value) (fun r5 H6 =>
 K (w .i64 (1 + r5)) H6) H2) H
theorem QnB (C p_e K H) (h : QkZ C p_e K H) : Qev C p_e K H := by
 refine Ye Tryz.func91 rfl Tryz.ntmps91 [(0, .agg (Qa.c p_e).toArray)] (Zo (GL.box (v := .agg (Qa.c p_e).toArray) (cs := Qa.c p_e) h trivial rfl rfl rfl ?_))
 intro b1 H2 h
 refine Za (GL.nil (Zo (Zf (Yl h fun x3 h => ?_))))
 refine Zc h Qcr ?_
 rintro _ H6 ⟨r5, rfl, h⟩
 refine Zi (.int .i64 (w .i64 (1 + r5))) (Za (GL.nil ?_))
 exact Y1 I3 ⟨(w .i64 (1 + r5)), rfl, h⟩
def Qlt (C : Ctx) (p_e : Qa) (K : Bool → Heap → Prop) (H : Heap) : Prop :=
 nw (Qa.c p_e) (fun b1 H2 =>
 ldT H2 Qa.c (b1, 0) fun x3 =>
 QcF C x3 false (fun r5 H6 =>
 K r5 H6) H2) H
theorem Qod (C p_e K H) (h : Qlt C p_e K H) : QcE C p_e K H := by
 refine Ye Tryz.func92 rfl Tryz.ntmps92 [(0, .agg (Qa.c p_e).toArray)] (Zo (GL.box (v := .agg (Qa.c p_e).toArray) (cs := Qa.c p_e) h trivial rfl rfl rfl ?_))
 intro b1 H2 h
 refine Za (GL.nil (Zo ?_))
 obtain ⟨x3, v4, h⟩ := h
 refine Zv (OV.loadT rfl rfl rfl v4) (Zc h Qi6 ?_)
 rintro _ H6 ⟨r5, rfl, h⟩
 refine Za (GL.nil ?_)
 exact Y1 I3 ⟨r5, rfl, h⟩
def Qgy (C : Ctx) (p_w : Option (Nat × Nat)) (p_e : Qa) (K : Heap → Prop) (H : Heap) : Prop :=
 nw (Qa.c p_e) (fun b1 H2 =>
 ldI H2 .u8 ((b1, 0).1, (b1, 0).2 + 0) fun x3 =>
 ift ((x3 : Int) == 1)
 (dr H2 fun Hs6 =>
 nck p_w fun p8 =>
 ldT Hs6 Qd.c ((b1, 0).1, (b1, 0).2 + 4) fun x10 =>
 QiX C x10 (fun r13 H14 =>
 Heap.le Hs6 H14 ∧
 Qm C (some (p8.1, p8.2 + 0)) r13 (fun r16 r17 H18 =>
 Heap.le Hs6 H18 ∧
 K H18) H14) H2)
 (ift ((x3 : Int) == 2)
 (dr H2 fun Hs20 =>
 nck p_w fun p22 =>
 ldS Hs20 ((b1, 0).1, (b1, 0).2 + 3) fun x24 =>
 Qm C (some (p22.1, p22.2 + 0)) x24 (fun r27 r28 H29 =>
 Heap.le Hs20 H29 ∧
 K H29) H2)
 (ift ((x3 : Int) == 3)
 (nck p_w fun p31 =>
 Qo C (some (p31.1, p31.2 + 0)) 95 (fun r33 H34 =>
 K H34) H2)
 (ift ((x3 : Int) == 4)
 (ldL H2 ((b1, 0).1, (b1, 0).2 + 8) fun x36 =>
 QF C p_w x36 (.func (.func 93) (List.toArray [pv p_w]) (List.toArray []) : Value) (fun H38 =>
 K H38) H2)
 (ift ((x3 : Int) == 5)
 (dr H2 fun Hs40 =>
 nck p_w fun p42 =>
 ldS Hs40 ((b1, 0).1, (b1, 0).2 + 3) fun x44 =>
 Qm C (some (p42.1, p42.2 + 0)) x44 (fun r47 r48 H49 =>
 Heap.le Hs40 H49 ∧
 ldL H49 ((b1, 0).1, (b1, 0).2 + 8) fun x50 =>
 ift (decide (((Sl.len x50 : Int) : Int) > 0))
 (ldL H49 ((b1, 0).1, (b1, 0).2 + 8) fun x53 =>
 QF C p_w x53 (.func (.func 93) (List.toArray [pv p_w]) (List.toArray []) : Value) (fun H55 =>
 K H55) H49)
 (K H49)) H2)
 (ift ((x3 : Int) == 6)
 (ldT H2 Qa.c (b1, 0) fun x57 =>
 QeV C p_w x57 (fun H59 =>
 K H59) H2)
 (ift ((x3 : Int) == 7)
 (ldT H2 Qa.c (b1, 0) fun x61 =>
 Qeo C p_w x61 (fun H63 =>
 K H63) H2)
 (ift ((x3 : Int) == 8)
 (nw ([sv [40, 105, 102, 32], sv [32, 116, 104, 101, 110, 32], sv [32, 101, 108, 115, 101, 32]]) (fun b65 H66 =>
 lp (α := Int) 0 H66 (fun x67 J68 H69 =>
 ift (decide ((x67 : Int) < (Sl.len (Sl.of (some (b65, 0)) 3 3) : Int)))
 (ixa (Sl.of (some (b65, 0)) 3 3) x67 fun p71 =>
 ldS H69 (p71.1, p71.2 + (x67 : Int).toNat * 1) fun x76 =>
 nck p_w fun p78 =>
 Qm C (some (p78.1, p78.2 + 0)) x76 (fun r80 r81 H82 =>
 ldL H82 ((b1, 0).1, (b1, 0).2 + 8) fun x83 =>
 ixa x83 x67 fun p85 =>
 ldT H82 Qa.c (p85.1, p85.2 + (x67 : Int).toNat * 9) fun x90 =>
 Qag C p_w x90 (fun H92 =>
 J68 (w .i64 (x67 + 1)) H92) H82) H69)
 (nck p_w fun p93 =>
 Qo C (some (p93.1, p93.2 + 0)) 41 (fun r95 H96 =>
 K H96) H69))) H2)
 (K H2))))))))) H
theorem Qkp (C p_w p_e K H) (h : Qgy C p_w p_e K H) : Qag C p_w p_e K H := by
 refine Ye Tryz.func93 rfl Tryz.ntmps93 [(0, pv p_w), (1, .agg (Qa.c p_e).toArray)] (Zo (GL.box (v := .agg (Qa.c p_e).toArray) (cs := Qa.c p_e) h trivial rfl rfl rfl ?_))
 intro b1 H2 h
 refine GL.nil (Zo (Zf (Yl h fun x3 h => ?_)))
 refine GL.nil (GC.block (Zo (Zi (.bool ((x3 : Int) == 1)) (Za (GL.nil (Yd h (fun u5 h => ?_) fun u5 h => ?_))))))
 obtain ⟨Hs6, hle7, h⟩ := h
 refine GC.any (Hs := Hs6) (by kernel_rfl) hle7 (Zp 0 rfl Ym ?_)
 obtain ⟨p8, hp9, h⟩ := h
 refine Zp 1 rfl (OV.nilCheck (q := p_w) rfl hp9) (Zp 2 rfl Yf (Zp 3 rfl Yf ?_))
 obtain ⟨x10, v11, h⟩ := h
 refine Zp 4 rfl (OV.loadT rfl rfl rfl v11) (GA.eff 5 rfl (by kernel_rfl) (Zc h Qn0 ?_))
 rintro _ H14 ⟨r13, rfl, h⟩
 obtain ⟨hle12, h⟩ := h
 refine GA.back hle12 (GA.eff 6 rfl (by kernel_rfl) (Zc h Qn ?_))
 rintro _ H18 ⟨r16, r17, rfl, h⟩
 obtain ⟨hle15, h⟩ := h
 refine GA.back hle15 (GA.done (by kernel_rfl) ?_)
 exact GL.ends (fun _ _ hf hs => QC rfl hf hs ⟨rfl, h⟩)
 refine Zo (Zi (.bool ((x3 : Int) == 2)) (Za (GL.nil (Yd h (fun u19 h => ?_) fun u19 h => ?_))))
 obtain ⟨Hs20, hle21, h⟩ := h
 refine GC.any (Hs := Hs20) (by kernel_rfl) hle21 (Zp 0 rfl Ym ?_)
 obtain ⟨p22, hp23, h⟩ := h
 refine Zp 1 rfl (OV.nilCheck (q := p_w) rfl hp23) (Zp 2 rfl Yf (Zp 3 rfl Yf ?_))
 obtain ⟨x24, v25, h⟩ := h
 refine Zp 4 rfl (Yo v25) (GA.eff 5 rfl (by kernel_rfl) (Zc h Qn ?_))
 rintro _ H29 ⟨r27, r28, rfl, h⟩
 obtain ⟨hle26, h⟩ := h
 refine GA.back hle26 (GA.done (by kernel_rfl) ?_)
 exact GL.ends (fun _ _ hf hs => QC rfl hf hs ⟨rfl, h⟩)
 refine Zo (Zi (.bool ((x3 : Int) == 3)) (Za (GL.nil (Yd h (fun u30 h => ?_) fun u30 h => ?_))))
 refine GC.region (Zm ?_)
 obtain ⟨p31, hp32, h⟩ := h
 refine Zv (OV.nilCheck (q := p_w) rfl hp32) (Zf (Zc h Qq ?_))
 rintro _ H34 ⟨r33, rfl, h⟩
 exact GL.ends (fun _ _ hf hs => QC rfl hf hs ⟨rfl, h⟩)
 refine Zo (Zi (.bool ((x3 : Int) == 4)) (Za (GL.nil (Yd h (fun u35 h => ?_) fun u35 h => ?_))))
 refine GC.region (Zm (Zf (Yl h fun x36 h => ?_)))
 refine Zm (Zv (OV.makeFunc (vs := [pv p_w]) (us := []) rfl rfl) (Zc h QZ ?_))
 rintro _ H38 ⟨rfl, h⟩
 exact GL.ends (fun _ _ hf hs => QC rfl hf hs ⟨rfl, h⟩)
 refine Zo (Zi (.bool ((x3 : Int) == 5)) (Za (GL.nil (Yd h (fun u39 h => ?_) fun u39 h => ?_))))
 refine GC.seq ?_
 obtain ⟨Hs40, hle41, h⟩ := h
 refine GC.any (Hs := Hs40) (by kernel_rfl) hle41 (Zp 0 rfl Ym ?_)
 obtain ⟨p42, hp43, h⟩ := h
 refine Zp 1 rfl (OV.nilCheck (q := p_w) rfl hp43) (Zp 2 rfl Yf (Zp 3 rfl Yf ?_))
 obtain ⟨x44, v45, h⟩ := h
 refine Zp 4 rfl (Yo v45) (GA.eff 5 rfl (by kernel_rfl) (Zc h Qn ?_))
 rintro _ H49 ⟨r47, r48, rfl, h⟩
 obtain ⟨hle46, h⟩ := h
 refine GA.back hle46 (GA.done (by kernel_rfl) (GL.nil (Zo (Zf (Yl h fun x50 h => ?_)))))
 refine Zq (Zi (.bool (decide (((Sl.len x50 : Int) : Int) > 0))) (GL.nil (Yd h (fun u52 h => ?_) fun u52 h => ?_)))
 refine GC.region (Zm (Zf (Yl h fun x53 h => ?_)))
 refine Zm (Zv (OV.makeFunc (vs := [pv p_w]) (us := []) rfl rfl) (Zc h QZ ?_))
 rintro _ H55 ⟨rfl, h⟩
 exact GL.ends (fun _ _ hf hs => QC rfl hf hs ⟨rfl, h⟩)
 exact GC.ends (fun _ _ hf hs => QC rfl hf hs ⟨rfl, h⟩)
 refine Zo (Zi (.bool ((x3 : Int) == 6)) (Za (GL.nil (Yd h (fun u56 h => ?_) fun u56 h => ?_))))
 refine GC.region (Zm ?_)
 obtain ⟨x57, v58, h⟩ := h
 refine Zv (OV.loadT rfl rfl rfl v58) (Zc h Qkw ?_)
 rintro _ H59 ⟨rfl, h⟩
 exact GL.ends (fun _ _ hf hs => QC rfl hf hs ⟨rfl, h⟩)
 refine Zo (Zi (.bool ((x3 : Int) == 7)) (Za (GL.nil (Yd h (fun u60 h => ?_) fun u60 h => ?_))))
 refine GC.region (Zm ?_)
 obtain ⟨x61, v62, h⟩ := h
 refine Zv (OV.loadT rfl rfl rfl v62) (Zc h QjI ?_)
 rintro _ H63 ⟨rfl, h⟩
 exact GL.ends (fun _ _ hf hs => QC rfl hf hs ⟨rfl, h⟩)
 refine Zo (Zi (.bool ((x3 : Int) == 8)) (Za (GL.nil (Yd h (fun u64 h => ?_) fun u64 h => ?_))))
 refine GC.seq (Zo (GL.buildSlice (cs := [sv [40, 105, 102, 32], sv [32, 116, 104, 101, 110, 32], sv [32, 101, 108, 115, 101, 32]]) h trivial rfl (vs := [(0, sv [40, 105, 102, 32]), (1, sv [32, 116, 104, 101, 110, 32]), (2, sv [32, 101, 108, 115, 101, 32])]) rfl ⟨9, fun _ => by kernel_rfl⟩ ?_))
 intro b65 H66 h
 refine Zq (Zm (GL.nil (GC.block (Yp h (fun x67 => [(71, .int .i64 x67), (0, pv p_w), (3, pv (some (b1, 0))), (69, slv (Sl.of (some (b65, 0)) 3 3)), (70, .int .i64 (Sl.len (Sl.of (some (b65, 0)) 3 3) : Int))]) ?_))))
 intro x67 H69 J68 h
 refine Zo (Zi (.bool (decide ((x67 : Int) < (Sl.len (Sl.of (some (b65, 0)) 3 3) : Int)))) (GL.nil (GC.seq (Yd h (fun u70 h => ?_) fun u70 h => ?_))))
 refine GC.skip (GC.seq (GC.block (Zo (Zm (Yx h fun p71 h => ?_)))))
 refine Yl h fun x76 h => ?_
 refine Za (Za (GL.nil (Zo (Zm ?_))))
 obtain ⟨p78, hp79, h⟩ := h
 refine Zv (OV.nilCheck (q := p_w) rfl hp79) (Zf (Zm (Zc h Qn ?_)))
 rintro _ H82 ⟨r80, r81, rfl, h⟩
 refine GL.nil (GC.region (Zm (Zf (Yl h fun x83 h => ?_))))
 refine Zm (Yx h fun p85 h => ?_)
 obtain ⟨x90, v91, h⟩ := h
 refine Zv (OV.loadT rfl rfl rfl v91) (Zc h Q7 ?_)
 rintro _ H92 ⟨rfl, h⟩
 refine GL.nil_to (fun _ _ h => h) (GC.region (Zi (.int .i64 (w .i64 (x67 + 1))) (Zm ?_)))
 exact Yj I3 (w .i64 (x67 + 1)) h
 refine GC.exit_to (fun _ _ h => h) (GC.region (Zm ?_))
 obtain ⟨p93, hp94, h⟩ := h
 refine Zv (OV.nilCheck (q := p_w) rfl hp94) (Zf (Zc h Qq ?_))
 rintro _ H96 ⟨r95, rfl, h⟩
 exact GL.ends (fun _ _ hf hs => QC rfl hf hs ⟨rfl, h⟩)
 exact GC.ends (fun _ _ hf hs => QC rfl hf hs ⟨rfl, h⟩)
def Qj2 (C : Ctx) (p_l : Sl) (p_most : Int) (K : Int → Heap → Prop) (H : Heap) : Prop :=
 lp (α := Int × Int) (0, 0) H (fun x1 J2 H3 =>
 ift ((decide ((x1.2 : Int) < (Sl.len p_l : Int))) && (decide ((x1.1 : Int) < p_most)))
 (ixa p_l x1.2 fun p6 =>
 ldS H3 ((p6.1, p6.2 + (x1.2 : Int).toNat * 2).1, (p6.1, p6.2 + (x1.2 : Int).toNat * 2).2 + 0) fun x11 =>
 ixa p_l x1.2 fun p13 =>
 ldL H3 ((p13.1, p13.2 + (x1.2 : Int).toNat * 2).1, (p13.1, p13.2 + (x1.2 : Int).toNat * 2).2 + 1) fun x18 =>
 QaM C x18 (w .i64 (p_most - (w .i64 ((w .i64 (x1.1 + 1)) + (w .i64 (Int.tdiv (List.length x11 : Int) 50)))))) (fun r20 H21 =>
 J2 ((w .i64 ((w .i64 ((w .i64 (x1.1 + 1)) + (w .i64 (Int.tdiv (List.length x11 : Int) 50)))) + r20)), (w .i64 (x1.2 + 1))) H21) H3)
 (K x1.1 H3))
theorem QmL (C p_l p_most K H) (h : Qj2 C p_l p_most K H) : QaM C p_l p_most K H := by
 refine Ye Tryz.func96 rfl Tryz.ntmps96 [(0, slv p_l), (1, .int .i64 p_most)] (Zo (Za (GL.nil (Zo (Za (GL.nil (GC.seq (Zo (Za (GL.nil (GC.block (Yp h (fun x1 => [(5, .int .i64 x1.1), (6, .int .i64 x1.2), (0, slv p_l), (1, .int .i64 p_most)]) ?_))))))))))))
 intro x1 H3 J2 h
 refine GC.seq (Zo (Zm (Zm (Zq (Zi (.bool (decide ((x1.2 : Int) < (Sl.len p_l : Int)))) (Zm (GL.cut0 4 [(15, .bool ((decide ((x1.2 : Int) < (Sl.len p_l : Int))) && (decide ((x1.1 : Int) < p_most)))), (0, slv p_l), (1, .int .i64 p_most), (5, .int .i64 x1.1), (6, .int .i64 x1.2)] ?_ ?_)))))))
 rcases Zb (decide ((x1.2 : Int) < (Sl.len p_l : Int))) with u4 | u4
 refine Zu u4 Ym (Zu u4 Ym (Zu u4 (OV.ibin (v := .bool (decide ((x1.1 : Int) < p_most))) rfl rfl rfl) (Zt u4 ?_)))
 exact GL.jump0 (fun _ _ h => h) () rfl ⟨(by rw [u4]; rfl), rfl, rfl, rfl, rfl, trivial⟩
 refine Zk u4 (Zk u4 (Zk u4 (Zn u4 ?_)))
 exact GL.jump0 (fun _ _ h => h) () rfl ⟨(by rw [u4]; rfl), rfl, rfl, rfl, rfl, trivial⟩
 refine GL.nil (Yd h (fun u5 h => ?_) fun u5 h => ?_)
 refine GC.skip (GC.seq (GC.block (Zo (Zm (Zi (.int .i64 (w .i64 (x1.1 + 1))) (Zm (Zm (Yx h fun p6 h => ?_))))))))
 refine Zf (Yl h fun x11 h => ?_)
 refine Zr (Zv (OV.quo rfl rfl (by decide)) (Zi (.int .i64 (w .i64 ((w .i64 (x1.1 + 1)) + (w .i64 (Int.tdiv (List.length x11 : Int) 50))))) (Za (GL.nil (GC.region (Zm (Zm (Zm (Yx h fun p13 h => ?_)))))))))
 refine Zf (Yl h fun x18 h => ?_)
 refine Zm (Zm (Zi (.int .i64 (w .i64 (p_most - (w .i64 ((w .i64 (x1.1 + 1)) + (w .i64 (Int.tdiv (List.length x11 : Int) 50))))))) (Zc h QjP ?_)))
 rintro _ H21 ⟨r20, rfl, h⟩
 refine Zi (.int .i64 (w .i64 ((w .i64 ((w .i64 (x1.1 + 1)) + (w .i64 (Int.tdiv (List.length x11 : Int) 50)))) + r20))) (Za (GL.nil_to (fun _ _ h => h) (GC.region (Zm (Zi (.int .i64 (w .i64 (x1.2 + 1))) (Za ?_))))))
 exact Yj I3 ((w .i64 ((w .i64 ((w .i64 (x1.1 + 1)) + (w .i64 (Int.tdiv (List.length x11 : Int) 50)))) + r20)), (w .i64 (x1.2 + 1))) h
 refine GC.exit_to (fun _ _ h => h) (Zo (Zm (Za (GL.nil ?_))))
 exact Y1 I3 ⟨x1.1, rfl, h⟩
def Qj9 (C : Ctx) (p_e : Qa) (v0 : Nat × Nat) (v1 : Nat × Nat) (K : Heap → Prop) (H : Heap) : Prop :=
 nw (Qa.c p_e) (fun b1 H2 =>
 ldI H2 .u8 ((b1, 0).1, (b1, 0).2 + 0) fun x3 =>
 ift ((x3 : Int) == 2)
 (ldL H2 v0 fun x6 =>
 ldS H2 ((b1, 0).1, (b1, 0).2 + 3) fun x8 =>
 Qa9 C x6 x8 (fun r10 H11 =>
 ift (!r10)
 (ldL H11 v0 fun x13 =>
 ldS H11 ((b1, 0).1, (b1, 0).2 + 3) fun x15 =>
 apd ([sv []]) 16 x13 ([sv x15]) 1 (fun r17 H18 =>
 st v0 (slv r17) (fun H19 =>
 K H19) H18) H11)
 (K H11)) H2)
 (ldL H2 ((b1, 0).1, (b1, 0).2 + 8) fun x20 =>
 lp (α := Int) 0 H2 (fun x22 J23 H24 =>
 ift (decide ((x22 : Int) < (Sl.len x20 : Int)))
 (ixa x20 x22 fun p26 =>
 ldT H24 Qa.c (p26.1, p26.2 + (x22 : Int).toNat * 9) fun x31 =>
 nw (Qa.c Qa.zero) (fun b33 H34 =>
 stT (b33, 0) (Qa.c x31) (fun H35 =>
 ldV H35 v1 fun x36 =>
 ldT H35 Qa.c (b33, 0) fun x38 =>
 callU Tryz.prog C x36 [.agg (Qa.c x38).toArray] H35 (fun v H40 => v = .tuple #[] ∧
 J23 (w .i64 (x22 + 1)) H40)) H34) H24)
 (K H24)))) H
theorem QmS (C p_e v0 v1 K H) (h : Qj9 C p_e v0 v1 K H) : QkF C p_e v0 v1 K H := by
 refine Ye Tryz.func97 rfl Tryz.ntmps97 [(0, .agg (Qa.c p_e).toArray), (1, pv (some v0)), (2, pv (some v1))] (Zo (GL.box (v := .agg (Qa.c p_e).toArray) (cs := Qa.c p_e) h trivial rfl rfl rfl ?_))
 intro b1 H2 h
 refine GL.nil (GC.seq (Zo (Zf (Yl h fun x3 h => ?_))))
 refine Zi (.bool ((x3 : Int) == 2)) (GL.nil (Yd h (fun u5 h => ?_) fun u5 h => ?_))
 refine GC.seq (Zo (Yl h fun x6 h => ?_))
 refine Zf (Yl h fun x8 h => ?_)
 refine Zc h Qfb ?_
 rintro _ H11 ⟨r10, rfl, h⟩
 refine Zv (OV.not rfl) (GL.nil (Yd h (fun u12 h => ?_) fun u12 h => ?_))
 refine GC.region (Yl h fun x13 h => ?_)
 refine Zf (Yl h fun x15 h => ?_)
 refine GL.appendLit (s := x13) (ys := [sv x15]) (zc := [sv []]) (bytes := 16) h trivial rfl (fun _ => trivial) rfl (fun _ => rfl) (fun _ => rfl) (vs := [(0, sv x15)]) rfl ⟨9, fun _ => by kernel_rfl⟩ ⟨⟨_, _, _, rfl, rfl, rfl, rfl, rfl, rfl⟩⟩ rfl rfl ?_
 intro _ r17 H18 h
 refine GL.store (p := v0) (v := slv r17) h trivial rfl rfl rfl rfl ?_
 intro H19 h
 refine GL.nil ?_
 exact GC.ret (fun _ _ hf hs => QC rfl hf hs ⟨rfl, h⟩)
 refine GC.skip ?_
 exact GC.ret (fun _ _ hf hs => QC rfl hf hs ⟨rfl, h⟩)
 refine GC.skip (Zo (Zf (Yl h fun x20 h => ?_)))
 refine Zq (Zm (GL.nil (GC.block (Yp h (fun x22 => [(22, .int .i64 x22), (2, pv (some v1)), (20, slv x20), (21, .int .i64 (Sl.len x20 : Int))]) ?_))))
 intro x22 H24 J23 h
 refine Zo (Zi (.bool (decide ((x22 : Int) < (Sl.len x20 : Int)))) (GL.nil (GC.seq (Yd h (fun u25 h => ?_) fun u25 h => ?_))))
 refine GC.skip (GC.seq (GC.block (Zo (Yx h fun p26 h => ?_))))
 obtain ⟨x31, hr32, h⟩ := h
 refine Zv (OV.loadT rfl rfl rfl hr32) (GL.alloc (cs := Qa.c Qa.zero) h trivial rfl rfl rfl ?_)
 intro b33 H34 h
 refine GL.storeT (p := (b33, 0)) (vs := Qa.c x31) h trivial rfl rfl rfl rfl ?_
 intro H35 h
 refine GL.nil (GC.region (Yl h fun x36 h => ?_))
 obtain ⟨x38, hr39, h⟩ := h
 refine Zv (OV.loadT rfl rfl rfl hr39) (GL.callU (xv := x36) (vs := [.agg (Qa.c x38).toArray]) h trivial rfl rfl rfl ?_)
 rintro _ H40 ⟨rfl, h⟩
 refine GL.nil_to (fun _ _ h => h) (GC.region (Zi (.int .i64 (w .i64 (x22 + 1))) (Zm ?_)))
 exact Yj I3 (w .i64 (x22 + 1)) h
 exact GC.exit_ends (fun _ _ hf hs => QC rfl hf hs ⟨rfl, h⟩)
def Qb8 (C : Ctx) (p_s : Sl) (p_v : Str) (K : Bool → Heap → Prop) (H : Heap) : Prop :=
 Qdb C p_s p_v (fun r1 H2 =>
 K (decide ((r1 : Int) ≥ 0)) H2) H
theorem Qfa (C p_s p_v K H) (h : Qb8 C p_s p_v K H) : Qa9 C p_s p_v K H := by
 refine Ye Tryz.func98 rfl Tryz.ntmps98 [(0, slv p_s), (1, sv p_v)] (Zo (Za (GL.nil (Zo (Zm (Zm (Zc h QfS ?_)))))))
 rintro _ H2 ⟨r1, rfl, h⟩
 refine Zi (.bool (decide ((r1 : Int) ≥ 0))) (Za (GL.nil ?_))
 exact Y1 I3 ⟨(decide ((r1 : Int) ≥ 0)), rfl, h⟩
def QgV (C : Ctx) (p_w : Option (Nat × Nat)) (p_is : Bool) (K : Heap → Prop) (H : Heap) : Prop :=
 ift p_is
 (nck p_w fun p2 =>
 Qm C (some (p2.1, p2.2 + 0)) [112, 117, 98, 32] (fun r4 r5 H6 =>
 K H6) H)
 (K H)
theorem QkC (C p_w p_is K H) (h : QgV C p_w p_is K H) : QdP C p_w p_is K H := by
 refine Ye Tryz.func99 rfl Tryz.ntmps99 [(0, pv p_w), (1, .bool p_is)] (Zo (Zm (GL.nil (Yd h (fun u1 h => ?_) fun u1 h => ?_))))
 refine GC.region (Zm ?_)
 obtain ⟨p2, hp3, h⟩ := h
 refine Zv (OV.nilCheck (q := p_w) rfl hp3) (Zf (Zc h Qn ?_))
 rintro _ H6 ⟨r4, r5, rfl, h⟩
 exact GL.ends (fun _ _ hf hs => QC rfl hf hs ⟨rfl, h⟩)
 exact GC.ends (fun _ _ hf hs => QC rfl hf hs ⟨rfl, h⟩)
def Qe6 (C : Ctx) (p_w : Option (Nat × Nat)) (p_l : Sl) (p_write : Value) (K : Heap → Prop) (H : Heap) : Prop :=
 nck p_w fun p1 =>
 Qo C (some (p1.1, p1.2 + 0)) 40 (fun r3 H4 =>
 QgJ C p_w p_l [44, 32] p_write (fun H5 =>
 nck p_w fun p6 =>
 Qo C (some (p6.1, p6.2 + 0)) 41 (fun r8 H9 =>
 K H9) H5) H4) H
theorem QhU (C p_w p_l p_write K H) (h : Qe6 C p_w p_l p_write K H) : Qc5 C p_w p_l p_write K H := by
 refine Ye Tryz.func100 rfl Tryz.ntmps100 [(0, pv p_w), (1, slv p_l), (2, p_write)] (Zo (Zm ?_))
 obtain ⟨p1, hp2, h⟩ := h
 refine Zv (OV.nilCheck (q := p_w) rfl hp2) (Zf (Zc h Qq ?_))
 rintro _ H4 ⟨r3, rfl, h⟩
 refine GL.nil (Zo (Zm (Zm (Zm (Zc h Qku ?_)))))
 rintro _ H5 ⟨rfl, h⟩
 refine GL.nil (GC.region (Zm ?_))
 obtain ⟨p6, hp7, h⟩ := h
 refine Zv (OV.nilCheck (q := p_w) rfl hp7) (Zf (Zc h Qq ?_))
 rintro _ H9 ⟨r8, rfl, h⟩
 exact GL.ends (fun _ _ hf hs => QC rfl hf hs ⟨rfl, h⟩)
def QeI (C : Ctx) (p_s : Str) (v0 : Nat × Nat) (K : Heap → Prop) (H : Heap) : Prop :=
 ldP H v0 fun x1 =>
 nck x1 fun p3 =>
 Qm C (some (p3.1, p3.2 + 0)) p_s (fun r5 r6 H7 =>
 K H7) H
theorem Qhv (C p_s v0 K H) (h : QeI C p_s v0 K H) : QeW C p_s v0 K H := by
 refine Ye Tryz.func101 rfl Tryz.ntmps101 [(0, sv p_s), (1, pv (some v0))] (GC.region (Yl h fun x1 h => ?_))
 obtain ⟨p3, hp4, h⟩ := h
 refine Zv (OV.nilCheck (q := x1) rfl hp4) (Zf (Zm (Zc h Qn ?_)))
 rintro _ H7 ⟨r5, r6, rfl, h⟩
 exact GL.ends (fun _ _ hf hs => QC rfl hf hs ⟨rfl, h⟩)
def QeF (C : Ctx) (p_w : Option (Nat × Nat)) (p_l : Sl) (p_between : Str) (p_write : Value) (K : Heap → Prop) (H : Heap) : Prop :=
 lp (α := Int) 0 H (fun x1 J2 H3 =>
 ift (decide ((x1 : Int) < (Sl.len p_l : Int)))
 (ixa p_l x1 fun p5 =>
 ldT H3 Qe.c (p5.1, p5.2 + (x1 : Int).toNat * 2) fun x10 =>
 nw (Qe.c Qe.zero) (fun b12 H13 =>
 stT (b12, 0) (Qe.c x10) (fun H14 =>
 jn (α := Unit) (fun x16 H17 =>
 ldT H17 Qe.c (b12, 0) fun x25 =>
 callU Tryz.prog C p_write [.agg (Qe.c x25).toArray] H17 (fun v H27 => v = .tuple #[] ∧
 J2 (w .i64 (x1 + 1)) H27))
 (fun J15 => ift (decide ((x1 : Int) > 0))
 (nck p_w fun p20 =>
 Qm C (some (p20.1, p20.2 + 0)) p_between (fun r22 r23 H24 =>
 J15 () H24) H14)
 (J15 () H14))) H13) H3)
 (K H3))
theorem Qhs (C p_w p_l p_between p_write K H) (h : QeF C p_w p_l p_between p_write K H) : QcG C p_w p_l p_between p_write K H := by
 refine Ye Tryz.func102 rfl Tryz.ntmps102 [(0, pv p_w), (1, slv p_l), (2, sv p_between), (3, p_write)] (Zo (Zm (Zq (Zm (GL.nil (GC.block (Yp h (fun x1 => [(12, .int .i64 x1), (0, pv p_w), (2, sv p_between), (3, p_write), (10, slv p_l), (11, .int .i64 (Sl.len p_l : Int))]) ?_)))))))
 intro x1 H3 J2 h
 refine Zo (Zi (.bool (decide ((x1 : Int) < (Sl.len p_l : Int)))) (GL.nil (GC.seq (Yd h (fun u4 h => ?_) fun u4 h => ?_))))
 refine GC.skip (GC.seq (GC.block (Zo (Zm (Yx h fun p5 h => ?_)))))
 obtain ⟨x10, v11, h⟩ := h
 refine Zv (OV.loadT rfl rfl rfl v11) (GL.alloc (cs := Qe.c Qe.zero) h trivial rfl rfl rfl ?_)
 intro b12 H13 h
 refine Za (GL.storeT (p := (b12, 0)) (vs := Qe.c x10) h trivial rfl rfl rfl rfl ?_)
 intro H14 h
 refine GL.nil ?_
 obtain ⟨J15, h, hR18⟩ := h
 refine GC.join (α := Unit) J15 (fun _ => [(0, pv p_w), (2, sv p_between), (3, p_write), (9, pv (some (b12, 0))), (10, slv p_l), (11, .int .i64 (Sl.len p_l : Int)), (12, .int .i64 x1)]) ?_ ?_
 refine Zo (Zm (Zi (.bool (decide ((x1 : Int) > 0))) (GL.nil (Yd h (fun u19 h => ?_) fun u19 h => ?_))))
 refine GC.region (Zm ?_)
 obtain ⟨p20, hp21, h⟩ := h
 refine Zv (OV.nilCheck (q := p_w) rfl hp21) (Zf (Zm (Zc h Qn ?_)))
 rintro _ H24 ⟨r22, r23, rfl, h⟩
 exact Yj I3 () h
 exact Yk I3 () h
 intro x16 H17 h
 replace h := hR18 x16 H17 h
 refine GC.region (Zm ?_)
 obtain ⟨x25, v26, h⟩ := h
 refine Zv (OV.loadT rfl rfl rfl v26) (GL.callU (xv := p_write) (vs := [.agg (Qe.c x25).toArray]) h trivial rfl rfl rfl ?_)
 rintro _ H27 ⟨rfl, h⟩
 refine GL.nil_to (fun _ _ h => h) (GC.region (Zi (.int .i64 (w .i64 (x1 + 1))) (Zm ?_)))
 exact Yj I3 (w .i64 (x1 + 1)) h
 exact GC.exit_ends (fun _ _ hf hs => QC rfl hf hs ⟨rfl, h⟩)
def QeJ (C : Ctx) (p_c : Qe) (v0 : Nat × Nat) (K : Heap → Prop) (H : Heap) : Prop :=
 nw (Qe.c p_c) (fun b1 H2 =>
 dr H2 fun Hs3 =>
 ldP Hs3 v0 fun x5 =>
 nck x5 fun p7 =>
 ldS Hs3 ((b1, 0).1, (b1, 0).2 + 0) fun x9 =>
 Qm C (some (p7.1, p7.2 + 0)) x9 (fun r12 r13 H14 =>
 Heap.le Hs3 H14 ∧
 ldL H14 ((b1, 0).1, (b1, 0).2 + 1) fun x15 =>
 ift (decide (((Sl.len x15 : Int) : Int) > 0))
 (ldP H14 v0 fun x18 =>
 ldL H14 ((b1, 0).1, (b1, 0).2 + 1) fun x20 =>
 ldP H14 v0 fun x22 =>
 Qaf C x18 x20 (.func (.func 105) (List.toArray [pv x22]) (List.toArray []) : Value) (fun H24 =>
 K H24) H14)
 (K H14)) H2) H
theorem Qhw (C p_c v0 K H) (h : QeJ C p_c v0 K H) : QeX C p_c v0 K H := by
 refine Ye Tryz.func103 rfl Tryz.ntmps103 [(0, .agg (Qe.c p_c).toArray), (1, pv (some v0))] (Zo (GL.box (v := .agg (Qe.c p_c).toArray) (cs := Qe.c p_c) h trivial rfl rfl rfl ?_))
 intro b1 H2 h
 refine GL.nil (GC.seq ?_)
 obtain ⟨Hs3, hle4, h⟩ := h
 refine GC.any (Hs := Hs3) (by kernel_rfl) hle4 ?_
 obtain ⟨x5, hr6, h⟩ := h
 refine Zp 0 rfl (Yo hr6) ?_
 obtain ⟨p7, hp8, h⟩ := h
 refine Zp 1 rfl (OV.nilCheck (q := x5) rfl hp8) (Zp 2 rfl Yf (Zp 3 rfl Yf ?_))
 obtain ⟨x9, hr10, h⟩ := h
 refine Zp 4 rfl (Yo hr10) (GA.eff 5 rfl (by kernel_rfl) (Zc h Qn ?_))
 rintro _ H14 ⟨r12, r13, rfl, h⟩
 obtain ⟨hle11, h⟩ := h
 refine GA.back hle11 (GA.done (by kernel_rfl) (GL.nil (Zo (Zf (Yl h fun x15 h => ?_)))))
 refine Zq (Zi (.bool (decide (((Sl.len x15 : Int) : Int) > 0))) (GL.nil (Yd h (fun u17 h => ?_) fun u17 h => ?_)))
 refine GC.region (Yl h fun x18 h => ?_)
 refine Zf (Yl h fun x20 h => ?_)
 refine Yl h fun x22 h => ?_
 refine Zv (OV.makeFunc (vs := [pv x22]) (us := []) rfl rfl) (Zc h QcQ ?_)
 rintro _ H24 ⟨rfl, h⟩
 exact GL.ends (fun _ _ hf hs => QC rfl hf hs ⟨rfl, h⟩)
 exact GC.ends (fun _ _ hf hs => QC rfl hf hs ⟨rfl, h⟩)
def QcU (C : Ctx) (p_w : Option (Nat × Nat)) (p_l : Sl) (p_write : Value) (K : Heap → Prop) (H : Heap) : Prop :=
 nck p_w fun p1 =>
 Qo C (some (p1.1, p1.2 + 0)) 40 (fun r3 H4 =>
 Qcn C p_w p_l [44, 32] p_write (fun H5 =>
 nck p_w fun p6 =>
 Qo C (some (p6.1, p6.2 + 0)) 41 (fun r8 H9 =>
 K H9) H5) H4) H
theorem QfO (C p_w p_l p_write K H) (h : QcU C p_w p_l p_write K H) : Qaf C p_w p_l p_write K H := by
 refine Ye Tryz.func104 rfl Tryz.ntmps104 [(0, pv p_w), (1, slv p_l), (2, p_write)] (Zo (Zm ?_))
 obtain ⟨p1, hp2, h⟩ := h
 refine Zv (OV.nilCheck (q := p_w) rfl hp2) (Zf (Zc h Qq ?_))
 rintro _ H4 ⟨r3, rfl, h⟩
 refine GL.nil (Zo (Zm (Zm (Zm (Zc h Qhi ?_)))))
 rintro _ H5 ⟨rfl, h⟩
 refine GL.nil (GC.region (Zm ?_))
 obtain ⟨p6, hp7, h⟩ := h
 refine Zv (OV.nilCheck (q := p_w) rfl hp7) (Zf (Zc h Qq ?_))
 rintro _ H9 ⟨r8, rfl, h⟩
 exact GL.ends (fun _ _ hf hs => QC rfl hf hs ⟨rfl, h⟩)
def Qe9 (C : Ctx) (p_w : Option (Nat × Nat)) (p_f : Qb) (K : Heap → Prop) (H : Heap) : Prop :=
 nw (Qb.c p_f) (fun b1 H2 =>
 jn (α := Unit) (fun x4 H5 =>
 ldT H5 Qg.c ((b1, 0).1, (b1, 0).2 + 1) fun x15 =>
 Qfq C p_w x15 (fun H17 =>
 K H17) H5)
 (fun J3 => ldS H2 ((b1, 0).1, (b1, 0).2 + 0) fun x7 =>
 ift (!(x7 == ([] : Str)))
 (ldS H2 ((b1, 0).1, (b1, 0).2 + 0) fun x10 =>
 nw ([sv x10, sv [58, 32]]) (fun b12 H13 =>
 QH C p_w (Sl.of (some (b12, 0)) 2 2) (fun H14 =>
 J3 () H14) H13) H2)
 (J3 () H2))) H
theorem QhX (C p_w p_f K H) (h : Qe9 C p_w p_f K H) : Qfd C p_w p_f K H := by
 refine Ye Tryz.func105 rfl Tryz.ntmps105 [(0, pv p_w), (1, .agg (Qb.c p_f).toArray)] (Zo (GL.box (v := .agg (Qb.c p_f).toArray) (cs := Qb.c p_f) h trivial rfl rfl rfl ?_))
 intro b1 H2 h
 refine GL.nil ?_
 obtain ⟨J3, h, hR6⟩ := h
 refine GC.join (α := Unit) J3 (fun _ => [(0, pv p_w), (3, pv (some (b1, 0)))]) ?_ ?_
 refine Zo (Zf (Yl h fun x7 h => ?_))
 refine Zv (OV.sbin (a := x7) (b := ([] : Str)) (v := .bool (!(x7 == ([] : Str)))) rfl rfl rfl) (GL.nil (Yd h (fun u9 h => ?_) fun u9 h => ?_))
 refine GC.region (Zm (Zf (Yl h fun x10 h => ?_)))
 refine GL.buildSlice (cs := [sv x10, sv [58, 32]]) h trivial rfl (vs := [(0, sv x10), (1, sv [58, 32])]) rfl ⟨9, fun _ => by kernel_rfl⟩ ?_
 intro b12 H13 h
 refine Zc h QT ?_
 rintro _ H14 ⟨rfl, h⟩
 exact Yj I3 () h
 exact Yk I3 () h
 intro x4 H5 h
 replace h := hR6 x4 H5 h
 refine GC.region (Zm (Zf ?_))
 obtain ⟨x15, v16, h⟩ := h
 refine Zv (OV.loadT rfl rfl rfl v16) (Zc h QgP ?_)
 rintro _ H17 ⟨rfl, h⟩
 exact GL.ends (fun _ _ hf hs => QC rfl hf hs ⟨rfl, h⟩)
def Qdf (C : Ctx) (p_b : Option (Nat × Nat)) (p_c : Int) (K : Value → Heap → Prop) (H : Heap) : Prop :=
 QaP C p_b (fun H1 =>
 nck p_b fun p2 =>
 ldL H1 (p2.1, p2.2 + 1) fun x4 =>
 apdG 5 ([.int .u8 0]) 1 x4 ([.int .u8 p_c]) 1 (fun r6 H7 =>
 nck p_b fun p8 =>
 sttG (p8.1, p8.2 + 1) (slv r6) (fun H10 =>
 K .nilIface H10) H7) H1) H
theorem Qf6 (C p_b p_c K H) (h : Qdf C p_b p_c K H) : Qo C p_b p_c K H := by
 refine Ye Tryz.func106 rfl Tryz.ntmps106 [(0, pv p_b), (1, .int .u8 p_c)] (Zo (Za (GL.nil (Zo (Zm (Zc h Qdc ?_))))))
 rintro _ H1 ⟨rfl, h⟩
 refine GL.nil (Zo (Zm (Zm ?_)))
 obtain ⟨p2, hp3, h⟩ := h
 refine Zv (OV.nilCheck (q := p_b) rfl hp3) (Zf (Yl h fun x4 h => ?_))
 refine Zm (GL.appendGLit (e := 5) (s := x4) (ys := [.int .u8 p_c]) (zc := [.int .u8 0]) (bytes := 1) h trivial rfl (fun _ => trivial) rfl (fun _ => rfl) (fun _ => rfl) (vs := [(0, .int .u8 p_c)]) rfl ⟨5, fun _ => by kernel_rfl⟩ ⟨⟨_, _, rfl, rfl, rfl, rfl, rfl, rfl⟩⟩ rfl rfl ?_)
 intro _ r6 H7 h
 obtain ⟨p8, hp9, h⟩ := h
 refine Zv (OV.nilCheck (q := p_b) rfl hp9) (Zf (GL.storeG (p := (p8.1, p8.2 + 1)) (v := slv r6) h trivial rfl rfl rfl rfl ?_))
 intro H10 h
 refine GL.nil (Zo (Za (GL.nil ?_)))
 exact Y1 I3 ⟨.nilIface, rfl, h⟩
def Qb6 (C : Ctx) (p_w : Option (Nat × Nat)) (p_l : Sl) (p_write : Value) (K : Heap → Prop) (H : Heap) : Prop :=
 nck p_w fun p1 =>
 Qo C (some (p1.1, p1.2 + 0)) 40 (fun r3 H4 =>
 QaX C p_w p_l [44, 32] p_write (fun H5 =>
 nck p_w fun p6 =>
 Qo C (some (p6.1, p6.2 + 0)) 41 (fun r8 H9 =>
 K H9) H5) H4) H
theorem Qd6 (C p_w p_l p_write K H) (h : Qb6 C p_w p_l p_write K H) : QF C p_w p_l p_write K H := by
 refine Ye Tryz.func107 rfl Tryz.ntmps107 [(0, pv p_w), (1, slv p_l), (2, p_write)] (Zo (Zm ?_))
 obtain ⟨p1, hp2, h⟩ := h
 refine Zv (OV.nilCheck (q := p_w) rfl hp2) (Zf (Zc h Qq ?_))
 rintro _ H4 ⟨r3, rfl, h⟩
 refine GL.nil (Zo (Zm (Zm (Zm (Zc h QfD ?_)))))
 rintro _ H5 ⟨rfl, h⟩
 refine GL.nil (GC.region (Zm ?_))
 obtain ⟨p6, hp7, h⟩ := h
 refine Zv (OV.nilCheck (q := p_w) rfl hp7) (Zf (Zc h Qq ?_))
 rintro _ H9 ⟨r8, rfl, h⟩
 exact GL.ends (fun _ _ hf hs => QC rfl hf hs ⟨rfl, h⟩)
def QfK (C : Ctx) (p_e : Qa) (v0 : Nat × Nat) (v1 : Nat × Nat) (v2 : Nat × Nat) (K : Heap → Prop) (H : Heap) : Prop :=
 nw (Qa.c p_e) (fun b1 H2 =>
 ldL H2 (v0.1, v0.2 + 4) fun x3 =>
 ldI H2 .i64 v1 fun x5 =>
 ixa x3 x5 fun p7 =>
 ldS H2 (p7.1, p7.2 + (x5 : Int).toNat * 1) fun x12 =>
 ldI H2 .i64 v1 fun x14 =>
 st v1 (.int .i64 (w .i64 (x14 + 1))) (fun H16 =>
 ift (x12 == ([] : Str))
 (ldP H16 v2 fun x18 =>
 ldT H16 Qa.c (b1, 0) fun x20 =>
 Qag C x18 x20 (fun H22 =>
 K H22) H16)
 (ldP H16 v2 fun x23 =>
 nw ([sv x12, sv [40]]) (fun b25 H26 =>
 QH C x23 (Sl.of (some (b25, 0)) 2 2) (fun H27 =>
 ldP H27 v2 fun x28 =>
 ldT H27 Qa.c (b1, 0) fun x30 =>
 Qag C x28 x30 (fun H32 =>
 ldP H32 v2 fun x33 =>
 nck x33 fun p35 =>
 Qo C (some (p35.1, p35.2 + 0)) 41 (fun r37 H38 =>
 K H38) H32) H27) H26) H16)) H2) H
theorem QiU (C p_e v0 v1 v2 K H) (h : QfK C p_e v0 v1 v2 K H) : Qd0 C p_e v0 v1 v2 K H := by
 refine Ye Tryz.func108 rfl Tryz.ntmps108 [(0, .agg (Qa.c p_e).toArray), (1, pv (some v0)), (2, pv (some v1)), (3, pv (some v2))] (Zo (GL.box (v := .agg (Qa.c p_e).toArray) (cs := Qa.c p_e) h trivial rfl rfl rfl ?_))
 intro b1 H2 h
 refine GL.nil (Zo (Zf (Yl h fun x3 h => ?_)))
 refine Yl h fun x5 h => ?_
 refine Yx h fun p7 h => ?_
 refine Yl h fun x12 h => ?_
 refine Za (GL.nil (Zo (Yl h fun x14 h => ?_)))
 refine Zi (.int .i64 (w .i64 (x14 + 1))) (GL.store (p := v1) (v := .int .i64 (w .i64 (x14 + 1))) h trivial rfl rfl rfl rfl ?_)
 intro H16 h
 refine GL.nil (GC.seq (Zo (Zm (Zv (OV.sbin (a := x12) (b := ([] : Str)) (v := .bool (x12 == ([] : Str))) rfl rfl rfl) (GL.nil (Yd h (fun u17 h => ?_) fun u17 h => ?_))))))
 refine Zo (Yl h fun x18 h => ?_)
 obtain ⟨x20, hr21, h⟩ := h
 refine Zv (OV.loadT rfl rfl rfl hr21) (Zc h Q7 ?_)
 rintro _ H22 ⟨rfl, h⟩
 refine GL.nil ?_
 exact GC.ret (fun _ _ hf hs => QC rfl hf hs ⟨rfl, h⟩)
 refine GC.skip (Zo (Yl h fun x23 h => ?_))
 refine Zm (GL.buildSlice (cs := [sv x12, sv [40]]) h trivial rfl (vs := [(0, sv x12), (1, sv [40])]) rfl ⟨9, fun _ => by kernel_rfl⟩ ?_)
 intro b25 H26 h
 refine Zc h QT ?_
 rintro _ H27 ⟨rfl, h⟩
 refine GL.nil (Zo (Yl h fun x28 h => ?_))
 obtain ⟨x30, hr31, h⟩ := h
 refine Zv (OV.loadT rfl rfl rfl hr31) (Zc h Q7 ?_)
 rintro _ H32 ⟨rfl, h⟩
 refine GL.nil (GC.region (Yl h fun x33 h => ?_))
 obtain ⟨p35, hp36, h⟩ := h
 refine Zv (OV.nilCheck (q := x33) rfl hp36) (Zf (Zc h Qq ?_))
 rintro _ H38 ⟨r37, rfl, h⟩
 exact GL.ends (fun _ _ hf hs => QC rfl hf hs ⟨rfl, h⟩)
def Qdg (C : Ctx) (p_b : Option (Nat × Nat)) (K : Heap → Prop) (H : Heap) : Prop :=
 nck p_b fun p1 =>
 ldP H (p1.1, p1.2 + 0) fun x3 =>
 ift (Option.isNone x3)
 (∃ p7, p_b = some p7 ∧ cvU p7 (
 cvT Tryz.prog 85 2 p7 (
 nck p_b fun p10 =>
 sttG (p10.1, p10.2 + 0) (pv (some p7)) (fun H12 =>
 K H12) H) H) H)
 (nck p_b fun p13 =>
 ldP H (p13.1, p13.2 + 0) fun x15 =>
 ∃ p17, x15 = some p17 ∧ p_b = some p17 ∧
 ift false
 (False)
 (K H))
theorem Qf7 (C p_b K H) (h : Qdg C p_b K H) : QaP C p_b K H := by
 refine Ye Tryz.func109 rfl Tryz.ntmps109 [(0, pv p_b)] (Zo (Zm ?_))
 obtain ⟨p1, hp2, h⟩ := h
 refine Zv (OV.nilCheck (q := p_b) rfl hp2) (Zf (Yl h fun x3 h => ?_))
 refine Zv (OV.eqlNil (p := x3) rfl rfl rfl) (GL.nil (Yd h (fun u5 h => ?_) fun u5 h => ?_))
 refine GC.region (Zm (Zm ?_))
 obtain ⟨p7, hp8, hu6, h⟩ := h
 refine Zv (OV.cvU (q := p_b) (p := p7) hp8 hu6 rfl rfl rfl ⟨_, rfl, by decide⟩) (Zv (OV.ext Qha (vs := [pv (some p7)]) (v := pv (some p7)) rfl (fun w => Qsy _ w)) ?_)
 obtain ⟨hu9, h⟩ := h
 refine Zv (OV.cvT (len := 2) (p := p7) hu9 rfl rfl rfl ⟨_, rfl⟩) ?_
 obtain ⟨p10, hp11, h⟩ := h
 refine Zv (OV.nilCheck (q := p_b) rfl hp11) (Zf (GL.storeG (p := (p10.1, p10.2 + 0)) (v := pv (some p7)) h trivial rfl rfl rfl rfl ?_))
 intro H12 h
 exact GL.ends (fun _ _ hf hs => QC rfl hf hs ⟨rfl, h⟩)
 refine Zo (Zm ?_)
 obtain ⟨p13, hp14, h⟩ := h
 refine Zv (OV.nilCheck (q := p_b) rfl hp14) (Zf (Yl h fun x15 h => ?_))
 refine Zm ?_
 obtain ⟨p17, hp18, hq19, h⟩ := h
 refine Zv (OV.neqSame (p := x15) (q := p_b) rfl rfl hp18 hq19 rfl rfl) (GL.nil (Yd h (fun u20 h => ?_) fun u20 h => ?_))
 exact GC.never h
 exact GC.ends (fun _ _ hf hs => QC rfl hf hs ⟨rfl, h⟩)
def QdB (C : Ctx) (p_l : Sl) (p_depth : Value) (K : Int → Heap → Prop) (H : Heap) : Prop :=
 lp (α := Int × Int) (0, 0) H (fun x1 J2 H3 =>
 ift (decide ((x1.2 : Int) < (Sl.len p_l : Int)))
 (ixa p_l x1.2 fun p5 =>
 ldT H3 Qf.c (p5.1, p5.2 + (x1.2 : Int).toNat * 6) fun x10 =>
 nw (Qf.c Qf.zero) (fun b12 H13 =>
 stT (b12, 0) (Qf.c x10) (fun H14 =>
 ldT H14 Qf.c (b12, 0) fun x15 =>
 callU Tryz.prog C p_depth [.agg (Qf.c x15).toArray] H14 (fun v H18 => ∃ (r17 : Int), v = .int .i64 r17 ∧
 J2 ((if r17 > x1.1 then r17 else x1.1 : Int), (w .i64 (x1.2 + 1))) H18)) H13) H3)
 (K x1.1 H3))
theorem Qgi (C p_l p_depth K H) (h : QdB C p_l p_depth K H) : QV C p_l p_depth K H := by
 refine Ye Tryz.func113 rfl Tryz.ntmps113 [(0, slv p_l), (1, p_depth)] (Zo (Za (GL.nil (Zo (Za (GL.nil (GC.seq (Zo (Zm (Zq (Zm (GL.nil (GC.block (Yp h (fun x1 => [(5, .int .i64 x1.1), (10, .int .i64 x1.2), (1, p_depth), (8, slv p_l), (9, .int .i64 (Sl.len p_l : Int))]) ?_))))))))))))))
 intro x1 H3 J2 h
 refine Zo (Zi (.bool (decide ((x1.2 : Int) < (Sl.len p_l : Int)))) (GL.nil (GC.seq (Yd h (fun u4 h => ?_) fun u4 h => ?_))))
 refine GC.skip (GC.seq (GC.block (Zo (Yx h fun p5 h => ?_))))
 obtain ⟨x10, v11, h⟩ := h
 refine Zv (OV.loadT rfl rfl rfl v11) (GL.alloc (cs := Qf.c Qf.zero) h trivial rfl rfl rfl ?_)
 intro b12 H13 h
 refine GL.storeT (p := (b12, 0)) (vs := Qf.c x10) h trivial rfl rfl rfl rfl ?_
 intro H14 h
 refine GL.nil (GC.region (Zm (Zm ?_)))
 obtain ⟨x15, v16, h⟩ := h
 refine Zv (OV.loadT rfl rfl rfl v16) (GL.callU (xv := p_depth) (vs := [.agg (Qf.c x15).toArray]) h trivial rfl rfl rfl ?_)
 rintro _ H18 ⟨r17, rfl, h⟩
 refine Zv (OV.maxI rfl rfl) (Za (GL.nil_to (fun _ _ h => h) (GC.region (Zi (.int .i64 (w .i64 (x1.2 + 1))) (Zm ?_)))))
 exact Yj I3 ((if r17 > x1.1 then r17 else x1.1 : Int), (w .i64 (x1.2 + 1))) h
 refine GC.exit_to (fun _ _ h => h) (Zo (Zm (Za (GL.nil ?_))))
 exact Y1 I3 ⟨x1.1, rfl, h⟩
def Qka (C : Ctx) (p_t : Qf) (K : Int → Heap → Prop) (H : Heap) : Prop :=
 nw (Qf.c p_t) (fun b1 H2 =>
 ldL H2 ((b1, 0).1, (b1, 0).2 + 5) fun x3 =>
 QU C x3 (.func (.func 116) (List.toArray []) (List.toArray []) : Value) (fun r5 H6 =>
 K r5 H6) H2) H
theorem QmT (C p_t K H) (h : Qka C p_t K H) : QdK C p_t K H := by
 refine Ye Tryz.func114 rfl Tryz.ntmps114 [(0, .agg (Qf.c p_t).toArray)] (Zo (GL.box (v := .agg (Qf.c p_t).toArray) (cs := Qf.c p_t) h trivial rfl rfl rfl ?_))
 intro b1 H2 h
 refine Za (GL.nil (Zo (Zf (Yl h fun x3 h => ?_))))
 refine Zc h Qgr ?_
 rintro _ H6 ⟨r5, rfl, h⟩
 refine Za (GL.nil ?_)
 exact Y1 I3 ⟨r5, rfl, h⟩
def Qdz (C : Ctx) (p_l : Sl) (p_depth : Value) (K : Int → Heap → Prop) (H : Heap) : Prop :=
 lp (α := Int × Int) (0, 0) H (fun x1 J2 H3 =>
 ift (decide ((x1.2 : Int) < (Sl.len p_l : Int)))
 (ixa p_l x1.2 fun p5 =>
 ldT H3 Qe.c (p5.1, p5.2 + (x1.2 : Int).toNat * 2) fun x10 =>
 nw (Qe.c Qe.zero) (fun b12 H13 =>
 stT (b12, 0) (Qe.c x10) (fun H14 =>
 ldT H14 Qe.c (b12, 0) fun x15 =>
 callU Tryz.prog C p_depth [.agg (Qe.c x15).toArray] H14 (fun v H18 => ∃ (r17 : Int), v = .int .i64 r17 ∧
 J2 ((if r17 > x1.1 then r17 else x1.1 : Int), (w .i64 (x1.2 + 1))) H18)) H13) H3)
 (K x1.1 H3))
theorem Qgg (C p_l p_depth K H) (h : Qdz C p_l p_depth K H) : QU C p_l p_depth K H := by
 refine Ye Tryz.func115 rfl Tryz.ntmps115 [(0, slv p_l), (1, p_depth)] (Zo (Za (GL.nil (Zo (Za (GL.nil (GC.seq (Zo (Zm (Zq (Zm (GL.nil (GC.block (Yp h (fun x1 => [(5, .int .i64 x1.1), (10, .int .i64 x1.2), (1, p_depth), (8, slv p_l), (9, .int .i64 (Sl.len p_l : Int))]) ?_))))))))))))))
 intro x1 H3 J2 h
 refine Zo (Zi (.bool (decide ((x1.2 : Int) < (Sl.len p_l : Int)))) (GL.nil (GC.seq (Yd h (fun u4 h => ?_) fun u4 h => ?_))))
 refine GC.skip (GC.seq (GC.block (Zo (Yx h fun p5 h => ?_))))
 obtain ⟨x10, v11, h⟩ := h
 refine Zv (OV.loadT rfl rfl rfl v11) (GL.alloc (cs := Qe.c Qe.zero) h trivial rfl rfl rfl ?_)
 intro b12 H13 h
 refine GL.storeT (p := (b12, 0)) (vs := Qe.c x10) h trivial rfl rfl rfl rfl ?_
 intro H14 h
 refine GL.nil (GC.region (Zm (Zm ?_)))
 obtain ⟨x15, v16, h⟩ := h
 refine Zv (OV.loadT rfl rfl rfl v16) (GL.callU (xv := p_depth) (vs := [.agg (Qe.c x15).toArray]) h trivial rfl rfl rfl ?_)
 rintro _ H18 ⟨r17, rfl, h⟩
 refine Zv (OV.maxI rfl rfl) (Za (GL.nil_to (fun _ _ h => h) (GC.region (Zi (.int .i64 (w .i64 (x1.2 + 1))) (Zm ?_)))))
 exact Yj I3 ((if r17 > x1.1 then r17 else x1.1 : Int), (w .i64 (x1.2 + 1))) h
 refine GC.exit_to (fun _ _ h => h) (Zo (Zm (Za (GL.nil ?_))))
 exact Y1 I3 ⟨x1.1, rfl, h⟩
def Qiq (C : Ctx) (p_c : Qe) (K : Int → Heap → Prop) (H : Heap) : Prop :=
 nw (Qe.c p_c) (fun b1 H2 =>
 ldL H2 ((b1, 0).1, (b1, 0).2 + 1) fun x3 =>
 QE C x3 (.func (.func 118) (List.toArray []) (List.toArray []) : Value) (fun r5 H6 =>
 K r5 H6) H2) H
theorem QlE (C p_c K H) (h : Qiq C p_c K H) : Qcl C p_c K H := by
 refine Ye Tryz.func116 rfl Tryz.ntmps116 [(0, .agg (Qe.c p_c).toArray)] (Zo (GL.box (v := .agg (Qe.c p_c).toArray) (cs := Qe.c p_c) h trivial rfl rfl rfl ?_))
 intro b1 H2 h
 refine Za (GL.nil (Zo (Zf (Yl h fun x3 h => ?_))))
 refine Zc h Qde ?_
 rintro _ H6 ⟨r5, rfl, h⟩
 refine Za (GL.nil ?_)
 exact Y1 I3 ⟨r5, rfl, h⟩
def Qdi (C : Ctx) (p_l : Sl) (p_depth : Value) (K : Int → Heap → Prop) (H : Heap) : Prop :=
 lp (α := Int × Int) (0, 0) H (fun x1 J2 H3 =>
 ift (decide ((x1.2 : Int) < (Sl.len p_l : Int)))
 (ixa p_l x1.2 fun p5 =>
 ldT H3 Qb.c (p5.1, p5.2 + (x1.2 : Int).toNat * 3) fun x10 =>
 nw (Qb.c Qb.zero) (fun b12 H13 =>
 stT (b12, 0) (Qb.c x10) (fun H14 =>
 ldT H14 Qb.c (b12, 0) fun x15 =>
 callU Tryz.prog C p_depth [.agg (Qb.c x15).toArray] H14 (fun v H18 => ∃ (r17 : Int), v = .int .i64 r17 ∧
 J2 ((if r17 > x1.1 then r17 else x1.1 : Int), (w .i64 (x1.2 + 1))) H18)) H13) H3)
 (K x1.1 H3))
theorem Qf9 (C p_l p_depth K H) (h : Qdi C p_l p_depth K H) : QE C p_l p_depth K H := by
 refine Ye Tryz.func117 rfl Tryz.ntmps117 [(0, slv p_l), (1, p_depth)] (Zo (Za (GL.nil (Zo (Za (GL.nil (GC.seq (Zo (Zm (Zq (Zm (GL.nil (GC.block (Yp h (fun x1 => [(5, .int .i64 x1.1), (10, .int .i64 x1.2), (1, p_depth), (8, slv p_l), (9, .int .i64 (Sl.len p_l : Int))]) ?_))))))))))))))
 intro x1 H3 J2 h
 refine Zo (Zi (.bool (decide ((x1.2 : Int) < (Sl.len p_l : Int)))) (GL.nil (GC.seq (Yd h (fun u4 h => ?_) fun u4 h => ?_))))
 refine GC.skip (GC.seq (GC.block (Zo (Yx h fun p5 h => ?_))))
 obtain ⟨x10, v11, h⟩ := h
 refine Zv (OV.loadT rfl rfl rfl v11) (GL.alloc (cs := Qb.c Qb.zero) h trivial rfl rfl rfl ?_)
 intro b12 H13 h
 refine GL.storeT (p := (b12, 0)) (vs := Qb.c x10) h trivial rfl rfl rfl rfl ?_
 intro H14 h
 refine GL.nil (GC.region (Zm (Zm ?_)))
 obtain ⟨x15, v16, h⟩ := h
 refine Zv (OV.loadT rfl rfl rfl v16) (GL.callU (xv := p_depth) (vs := [.agg (Qb.c x15).toArray]) h trivial rfl rfl rfl ?_)
 rintro _ H18 ⟨r17, rfl, h⟩
 refine Zv (OV.maxI rfl rfl) (Za (GL.nil_to (fun _ _ h => h) (GC.region (Zi (.int .i64 (w .i64 (x1.2 + 1))) (Zm ?_)))))
 exact Yj I3 ((if r17 > x1.1 then r17 else x1.1 : Int), (w .i64 (x1.2 + 1))) h
 refine GC.exit_to (fun _ _ h => h) (Zo (Zm (Za (GL.nil ?_))))
 exact Y1 I3 ⟨x1.1, rfl, h⟩
def QgU (C : Ctx) (p_f : Qb) (K : Int → Heap → Prop) (H : Heap) : Prop :=
 nw (Qb.c p_f) (fun b1 H2 =>
 ldT H2 Qg.c ((b1, 0).1, (b1, 0).2 + 1) fun x3 =>
 Qbw C x3 (fun r5 H6 =>
 K r5 H6) H2) H
theorem QkB (C p_f K H) (h : QgU C p_f K H) : QbJ C p_f K H := by
 refine Ye Tryz.func118 rfl Tryz.ntmps118 [(0, .agg (Qb.c p_f).toArray)] (Zo (GL.box (v := .agg (Qb.c p_f).toArray) (cs := Qb.c p_f) h trivial rfl rfl rfl ?_))
 intro b1 H2 h
 refine Za (GL.nil (Zo (Zf ?_)))
 obtain ⟨x3, v4, h⟩ := h
 refine Zv (OV.loadT rfl rfl rfl v4) (Zc h QhI ?_)
 rintro _ H6 ⟨r5, rfl, h⟩
 refine Za (GL.nil ?_)
 exact Y1 I3 ⟨r5, rfl, h⟩
end
section
set_option maxRecDepth 100000
open Go Go.Proofs
def QdS (C : Ctx) (p_l : Sl) (p_depth : Value) (K : Int → Heap → Prop) (H : Heap) : Prop :=
 lp (α := Int × Int) (0, 0) H (fun x1 J2 H3 =>
 ift (decide ((x1.2 : Int) < (Sl.len p_l : Int)))
 (ixa p_l x1.2 fun p5 =>
 ldT H3 Qh.c (p5.1, p5.2 + (x1.2 : Int).toNat * 6) fun x10 =>
 nw (Qh.c Qh.zero) (fun b12 H13 =>
 stT (b12, 0) (Qh.c x10) (fun H14 =>
 ldT H14 Qh.c (b12, 0) fun x15 =>
 callU Tryz.prog C p_depth [.agg (Qh.c x15).toArray] H14 (fun v H18 => ∃ (r17 : Int), v = .int .i64 r17 ∧
 J2 ((if r17 > x1.1 then r17 else x1.1 : Int), (w .i64 (x1.2 + 1))) H18)) H13) H3)
 (K x1.1 H3))
theorem QgC (C p_l p_depth K H) (h : QdS C p_l p_depth K H) : QY C p_l p_depth K H := by
 refine Ye Tryz.func119 rfl Tryz.ntmps119 [(0, slv p_l), (1, p_depth)] (Zo (Za (GL.nil (Zo (Za (GL.nil (GC.seq (Zo (Zm (Zq (Zm (GL.nil (GC.block (Yp h (fun x1 => [(5, .int .i64 x1.1), (10, .int .i64 x1.2), (1, p_depth), (8, slv p_l), (9, .int .i64 (Sl.len p_l : Int))]) ?_))))))))))))))
 intro x1 H3 J2 h
 refine Zo (Zi (.bool (decide ((x1.2 : Int) < (Sl.len p_l : Int)))) (GL.nil (GC.seq (Yd h (fun u4 h => ?_) fun u4 h => ?_))))
 refine GC.skip (GC.seq (GC.block (Zo (Yx h fun p5 h => ?_))))
 obtain ⟨x10, v11, h⟩ := h
 refine Zv (OV.loadT rfl rfl rfl v11) (GL.alloc (cs := Qh.c Qh.zero) h trivial rfl rfl rfl ?_)
 intro b12 H13 h
 refine GL.storeT (p := (b12, 0)) (vs := Qh.c x10) h trivial rfl rfl rfl rfl ?_
 intro H14 h
 refine GL.nil (GC.region (Zm (Zm ?_)))
 obtain ⟨x15, v16, h⟩ := h
 refine Zv (OV.loadT rfl rfl rfl v16) (GL.callU (xv := p_depth) (vs := [.agg (Qh.c x15).toArray]) h trivial rfl rfl rfl ?_)
 rintro _ H18 ⟨r17, rfl, h⟩
 refine Zv (OV.maxI rfl rfl) (Za (GL.nil_to (fun _ _ h => h) (GC.region (Zi (.int .i64 (w .i64 (x1.2 + 1))) (Zm ?_)))))
 exact Yj I3 ((if r17 > x1.1 then r17 else x1.1 : Int), (w .i64 (x1.2 + 1))) h
 refine GC.exit_to (fun _ _ h => h) (Zo (Zm (Za (GL.nil ?_))))
 exact Y1 I3 ⟨x1.1, rfl, h⟩
def Qkb (C : Ctx) (p_x : Qh) (K : Int → Heap → Prop) (H : Heap) : Prop :=
 nw (Qh.c p_x) (fun b1 H2 =>
 ldL H2 ((b1, 0).1, (b1, 0).2 + 5) fun x3 =>
 QE C x3 (.func (.func 118) (List.toArray []) (List.toArray []) : Value) (fun r5 H6 =>
 K r5 H6) H2) H
theorem QmU (C p_x K H) (h : Qkb C p_x K H) : QdL C p_x K H := by
 refine Ye Tryz.func120 rfl Tryz.ntmps120 [(0, .agg (Qh.c p_x).toArray)] (Zo (GL.box (v := .agg (Qh.c p_x).toArray) (cs := Qh.c p_x) h trivial rfl rfl rfl ?_))
 intro b1 H2 h
 refine Za (GL.nil (Zo (Zf (Yl h fun x3 h => ?_))))
 refine Zc h Qde ?_
 rintro _ H6 ⟨r5, rfl, h⟩
 refine Za (GL.nil ?_)
 exact Y1 I3 ⟨r5, rfl, h⟩
def QeD (C : Ctx) (p_l : Sl) (p_depth : Value) (K : Int → Heap → Prop) (H : Heap) : Prop :=
 lp (α := Int × Int) (0, 0) H (fun x1 J2 H3 =>
 ift (decide ((x1.2 : Int) < (Sl.len p_l : Int)))
 (ixa p_l x1.2 fun p5 =>
 ldT H3 Ql.c (p5.1, p5.2 + (x1.2 : Int).toNat * 6) fun x10 =>
 nw (Ql.c Ql.zero) (fun b12 H13 =>
 stT (b12, 0) (Ql.c x10) (fun H14 =>
 ldT H14 Ql.c (b12, 0) fun x15 =>
 callU Tryz.prog C p_depth [.agg (Ql.c x15).toArray] H14 (fun v H18 => ∃ (r17 : Int), v = .int .i64 r17 ∧
 J2 ((if r17 > x1.1 then r17 else x1.1 : Int), (w .i64 (x1.2 + 1))) H18)) H13) H3)
 (K x1.1 H3))
theorem Qhq (C p_l p_depth K H) (h : QeD C p_l p_depth K H) : Q5 C p_l p_depth K H := by
 refine Ye Tryz.func121 rfl Tryz.ntmps121 [(0, slv p_l), (1, p_depth)] (Zo (Za (GL.nil (Zo (Za (GL.nil (GC.seq (Zo (Zm (Zq (Zm (GL.nil (GC.block (Yp h (fun x1 => [(5, .int .i64 x1.1), (10, .int .i64 x1.2), (1, p_depth), (8, slv p_l), (9, .int .i64 (Sl.len p_l : Int))]) ?_))))))))))))))
 intro x1 H3 J2 h
 refine Zo (Zi (.bool (decide ((x1.2 : Int) < (Sl.len p_l : Int)))) (GL.nil (GC.seq (Yd h (fun u4 h => ?_) fun u4 h => ?_))))
 refine GC.skip (GC.seq (GC.block (Zo (Yx h fun p5 h => ?_))))
 obtain ⟨x10, v11, h⟩ := h
 refine Zv (OV.loadT rfl rfl rfl v11) (GL.alloc (cs := Ql.c Ql.zero) h trivial rfl rfl rfl ?_)
 intro b12 H13 h
 refine GL.storeT (p := (b12, 0)) (vs := Ql.c x10) h trivial rfl rfl rfl rfl ?_
 intro H14 h
 refine GL.nil (GC.region (Zm (Zm ?_)))
 obtain ⟨x15, v16, h⟩ := h
 refine Zv (OV.loadT rfl rfl rfl v16) (GL.callU (xv := p_depth) (vs := [.agg (Ql.c x15).toArray]) h trivial rfl rfl rfl ?_)
 rintro _ H18 ⟨r17, rfl, h⟩
 refine Zv (OV.maxI rfl rfl) (Za (GL.nil_to (fun _ _ h => h) (GC.region (Zi (.int .i64 (w .i64 (x1.2 + 1))) (Zm ?_)))))
 exact Yj I3 ((if r17 > x1.1 then r17 else x1.1 : Int), (w .i64 (x1.2 + 1))) h
 refine GC.exit_to (fun _ _ h => h) (Zo (Zm (Za (GL.nil ?_))))
 exact Y1 I3 ⟨x1.1, rfl, h⟩
def Qkc (C : Ctx) (p_x : Ql) (K : Int → Heap → Prop) (H : Heap) : Prop :=
 nw (Ql.c p_x) (fun b1 H2 =>
 dr H2 fun Hs3 =>
 ldL Hs3 ((b1, 0).1, (b1, 0).2 + 3) fun x5 =>
 ldL Hs3 ((b1, 0).1, (b1, 0).2 + 5) fun x7 =>
 QI C x5 (.func (.func 91) (List.toArray []) (List.toArray []) : Value) (fun r10 H11 =>
 Heap.le Hs3 H11 ∧
 QG C x7 (.func (.func 125) (List.toArray []) (List.toArray []) : Value) (fun r13 H14 =>
 Heap.le Hs3 H14 ∧
 K (if r13 > r10 then r13 else r10 : Int) H14) H11) H2) H
theorem QmV (C p_x K H) (h : Qkc C p_x K H) : QdM C p_x K H := by
 refine Ye Tryz.func122 rfl Tryz.ntmps122 [(0, .agg (Ql.c p_x).toArray)] (Zo (GL.box (v := .agg (Ql.c p_x).toArray) (cs := Ql.c p_x) h trivial rfl rfl rfl ?_))
 intro b1 H2 h
 refine Za (GL.nil (GC.seq ?_))
 obtain ⟨Hs3, hle4, h⟩ := h
 refine GC.any (Hs := Hs3) (by kernel_rfl) hle4 (Zp 0 rfl Yf ?_)
 obtain ⟨x5, v6, h⟩ := h
 refine Zp 1 rfl (Yo v6) (Zp 3 rfl Yf ?_)
 obtain ⟨x7, v8, h⟩ := h
 refine Zp 4 rfl (Yo v8) (GA.eff 2 rfl (by kernel_rfl) (Zc h Qcr ?_))
 rintro _ H11 ⟨r10, rfl, h⟩
 obtain ⟨hle9, h⟩ := h
 refine GA.back hle9 (GA.eff 5 rfl (by kernel_rfl) (Zc h Qdx ?_))
 rintro _ H14 ⟨r13, rfl, h⟩
 obtain ⟨hle12, h⟩ := h
 refine GA.back hle12 (Zp 6 rfl (OV.maxI rfl rfl) (Zp 7 rfl Ya (GA.done (by kernel_rfl) (GL.nil ?_))))
 exact Y1 I3 ⟨(if r13 > r10 then r13 else r10 : Int), rfl, h⟩
def QeC (C : Ctx) (p_l : Sl) (p_depth : Value) (K : Int → Heap → Prop) (H : Heap) : Prop :=
 lp (α := Int × Int) (0, 0) H (fun x1 J2 H3 =>
 ift (decide ((x1.2 : Int) < (Sl.len p_l : Int)))
 (ixa p_l x1.2 fun p5 =>
 ldT H3 Qa.c (p5.1, p5.2 + (x1.2 : Int).toNat * 9) fun x10 =>
 nw (Qa.c Qa.zero) (fun b12 H13 =>
 stT (b12, 0) (Qa.c x10) (fun H14 =>
 ldT H14 Qa.c (b12, 0) fun x15 =>
 callU Tryz.prog C p_depth [.agg (Qa.c x15).toArray] H14 (fun v H18 => ∃ (r17 : Int), v = .int .i64 r17 ∧
 J2 ((if r17 > x1.1 then r17 else x1.1 : Int), (w .i64 (x1.2 + 1))) H18)) H13) H3)
 (K x1.1 H3))
theorem Qhp (C p_l p_depth K H) (h : QeC C p_l p_depth K H) : QI C p_l p_depth K H := by
 refine Ye Tryz.func123 rfl Tryz.ntmps123 [(0, slv p_l), (1, p_depth)] (Zo (Za (GL.nil (Zo (Za (GL.nil (GC.seq (Zo (Zm (Zq (Zm (GL.nil (GC.block (Yp h (fun x1 => [(5, .int .i64 x1.1), (10, .int .i64 x1.2), (1, p_depth), (8, slv p_l), (9, .int .i64 (Sl.len p_l : Int))]) ?_))))))))))))))
 intro x1 H3 J2 h
 refine Zo (Zi (.bool (decide ((x1.2 : Int) < (Sl.len p_l : Int)))) (GL.nil (GC.seq (Yd h (fun u4 h => ?_) fun u4 h => ?_))))
 refine GC.skip (GC.seq (GC.block (Zo (Yx h fun p5 h => ?_))))
 obtain ⟨x10, v11, h⟩ := h
 refine Zv (OV.loadT rfl rfl rfl v11) (GL.alloc (cs := Qa.c Qa.zero) h trivial rfl rfl rfl ?_)
 intro b12 H13 h
 refine GL.storeT (p := (b12, 0)) (vs := Qa.c x10) h trivial rfl rfl rfl rfl ?_
 intro H14 h
 refine GL.nil (GC.region (Zm (Zm ?_)))
 obtain ⟨x15, v16, h⟩ := h
 refine Zv (OV.loadT rfl rfl rfl v16) (GL.callU (xv := p_depth) (vs := [.agg (Qa.c x15).toArray]) h trivial rfl rfl rfl ?_)
 rintro _ H18 ⟨r17, rfl, h⟩
 refine Zv (OV.maxI rfl rfl) (Za (GL.nil_to (fun _ _ h => h) (GC.region (Zi (.int .i64 (w .i64 (x1.2 + 1))) (Zm ?_)))))
 exact Yj I3 ((if r17 > x1.1 then r17 else x1.1 : Int), (w .i64 (x1.2 + 1))) h
 refine GC.exit_to (fun _ _ h => h) (Zo (Zm (Za (GL.nil ?_))))
 exact Y1 I3 ⟨x1.1, rfl, h⟩
def QdA (C : Ctx) (p_l : Sl) (p_depth : Value) (K : Int → Heap → Prop) (H : Heap) : Prop :=
 lp (α := Int × Int) (0, 0) H (fun x1 J2 H3 =>
 ift (decide ((x1.2 : Int) < (Sl.len p_l : Int)))
 (ixa p_l x1.2 fun p5 =>
 ldT H3 Qc.c (p5.1, p5.2 + (x1.2 : Int).toNat * 5) fun x10 =>
 nw (Qc.c Qc.zero) (fun b12 H13 =>
 stT (b12, 0) (Qc.c x10) (fun H14 =>
 ldT H14 Qc.c (b12, 0) fun x15 =>
 callU Tryz.prog C p_depth [.agg (Qc.c x15).toArray] H14 (fun v H18 => ∃ (r17 : Int), v = .int .i64 r17 ∧
 J2 ((if r17 > x1.1 then r17 else x1.1 : Int), (w .i64 (x1.2 + 1))) H18)) H13) H3)
 (K x1.1 H3))
theorem Qgh (C p_l p_depth K H) (h : QdA C p_l p_depth K H) : QG C p_l p_depth K H := by
 refine Ye Tryz.func124 rfl Tryz.ntmps124 [(0, slv p_l), (1, p_depth)] (Zo (Za (GL.nil (Zo (Za (GL.nil (GC.seq (Zo (Zm (Zq (Zm (GL.nil (GC.block (Yp h (fun x1 => [(5, .int .i64 x1.1), (10, .int .i64 x1.2), (1, p_depth), (8, slv p_l), (9, .int .i64 (Sl.len p_l : Int))]) ?_))))))))))))))
 intro x1 H3 J2 h
 refine Zo (Zi (.bool (decide ((x1.2 : Int) < (Sl.len p_l : Int)))) (GL.nil (GC.seq (Yd h (fun u4 h => ?_) fun u4 h => ?_))))
 refine GC.skip (GC.seq (GC.block (Zo (Yx h fun p5 h => ?_))))
 obtain ⟨x10, v11, h⟩ := h
 refine Zv (OV.loadT rfl rfl rfl v11) (GL.alloc (cs := Qc.c Qc.zero) h trivial rfl rfl rfl ?_)
 intro b12 H13 h
 refine GL.storeT (p := (b12, 0)) (vs := Qc.c x10) h trivial rfl rfl rfl rfl ?_
 intro H14 h
 refine GL.nil (GC.region (Zm (Zm ?_)))
 obtain ⟨x15, v16, h⟩ := h
 refine Zv (OV.loadT rfl rfl rfl v16) (GL.callU (xv := p_depth) (vs := [.agg (Qc.c x15).toArray]) h trivial rfl rfl rfl ?_)
 rintro _ H18 ⟨r17, rfl, h⟩
 refine Zv (OV.maxI rfl rfl) (Za (GL.nil_to (fun _ _ h => h) (GC.region (Zi (.int .i64 (w .i64 (x1.2 + 1))) (Zm ?_)))))
 exact Yj I3 ((if r17 > x1.1 then r17 else x1.1 : Int), (w .i64 (x1.2 + 1))) h
 refine GC.exit_to (fun _ _ h => h) (Zo (Zm (Za (GL.nil ?_))))
 exact Y1 I3 ⟨x1.1, rfl, h⟩
def Qf3 (C : Ctx) (p_x : Qc) (K : Int → Heap → Prop) (H : Heap) : Prop :=
 nw (Qc.c p_x) (fun b1 H2 =>
 ldL H2 ((b1, 0).1, (b1, 0).2 + 4) fun x3 =>
 QI C x3 (.func (.func 91) (List.toArray []) (List.toArray []) : Value) (fun r5 H6 =>
 K r5 H6) H2) H
theorem QjB (C p_x K H) (h : Qf3 C p_x K H) : Qba C p_x K H := by
 refine Ye Tryz.func125 rfl Tryz.ntmps125 [(0, .agg (Qc.c p_x).toArray)] (Zo (GL.box (v := .agg (Qc.c p_x).toArray) (cs := Qc.c p_x) h trivial rfl rfl rfl ?_))
 intro b1 H2 h
 refine Za (GL.nil (Zo (Zf (Yl h fun x3 h => ?_))))
 refine Zc h Qcr ?_
 rintro _ H6 ⟨r5, rfl, h⟩
 refine Za (GL.nil ?_)
 exact Y1 I3 ⟨r5, rfl, h⟩
def Qei (C : Ctx) (p_l : Sl) (p_depth : Value) (K : Int → Heap → Prop) (H : Heap) : Prop :=
 lp (α := Int × Int) (0, 0) H (fun x1 J2 H3 =>
 ift (decide ((x1.2 : Int) < (Sl.len p_l : Int)))
 (ixa p_l x1.2 fun p5 =>
 ldT H3 Qi.c (p5.1, p5.2 + (x1.2 : Int).toNat * 4) fun x10 =>
 nw (Qi.c Qi.zero) (fun b12 H13 =>
 stT (b12, 0) (Qi.c x10) (fun H14 =>
 ldT H14 Qi.c (b12, 0) fun x15 =>
 callU Tryz.prog C p_depth [.agg (Qi.c x15).toArray] H14 (fun v H18 => ∃ (r17 : Int), v = .int .i64 r17 ∧
 J2 ((if r17 > x1.1 then r17 else x1.1 : Int), (w .i64 (x1.2 + 1))) H18)) H13) H3)
 (K x1.1 H3))
theorem Qg4 (C p_l p_depth K H) (h : Qei C p_l p_depth K H) : Q0 C p_l p_depth K H := by
 refine Ye Tryz.func126 rfl Tryz.ntmps126 [(0, slv p_l), (1, p_depth)] (Zo (Za (GL.nil (Zo (Za (GL.nil (GC.seq (Zo (Zm (Zq (Zm (GL.nil (GC.block (Yp h (fun x1 => [(5, .int .i64 x1.1), (10, .int .i64 x1.2), (1, p_depth), (8, slv p_l), (9, .int .i64 (Sl.len p_l : Int))]) ?_))))))))))))))
 intro x1 H3 J2 h
 refine Zo (Zi (.bool (decide ((x1.2 : Int) < (Sl.len p_l : Int)))) (GL.nil (GC.seq (Yd h (fun u4 h => ?_) fun u4 h => ?_))))
 refine GC.skip (GC.seq (GC.block (Zo (Yx h fun p5 h => ?_))))
 obtain ⟨x10, v11, h⟩ := h
 refine Zv (OV.loadT rfl rfl rfl v11) (GL.alloc (cs := Qi.c Qi.zero) h trivial rfl rfl rfl ?_)
 intro b12 H13 h
 refine GL.storeT (p := (b12, 0)) (vs := Qi.c x10) h trivial rfl rfl rfl rfl ?_
 intro H14 h
 refine GL.nil (GC.region (Zm (Zm ?_)))
 obtain ⟨x15, v16, h⟩ := h
 refine Zv (OV.loadT rfl rfl rfl v16) (GL.callU (xv := p_depth) (vs := [.agg (Qi.c x15).toArray]) h trivial rfl rfl rfl ?_)
 rintro _ H18 ⟨r17, rfl, h⟩
 refine Zv (OV.maxI rfl rfl) (Za (GL.nil_to (fun _ _ h => h) (GC.region (Zi (.int .i64 (w .i64 (x1.2 + 1))) (Zm ?_)))))
 exact Yj I3 ((if r17 > x1.1 then r17 else x1.1 : Int), (w .i64 (x1.2 + 1))) h
 refine GC.exit_to (fun _ _ h => h) (Zo (Zm (Za (GL.nil ?_))))
 exact Y1 I3 ⟨x1.1, rfl, h⟩
def Qkd (C : Ctx) (p_x : Qi) (K : Int → Heap → Prop) (H : Heap) : Prop :=
 nw (Qi.c p_x) (fun b1 H2 =>
 ldL H2 ((b1, 0).1, (b1, 0).2 + 3) fun x3 =>
 QG C x3 (.func (.func 125) (List.toArray []) (List.toArray []) : Value) (fun r5 H6 =>
 K r5 H6) H2) H
theorem QmW (C p_x K H) (h : Qkd C p_x K H) : QdN C p_x K H := by
 refine Ye Tryz.func127 rfl Tryz.ntmps127 [(0, .agg (Qi.c p_x).toArray)] (Zo (GL.box (v := .agg (Qi.c p_x).toArray) (cs := Qi.c p_x) h trivial rfl rfl rfl ?_))
 intro b1 H2 h
 refine Za (GL.nil (Zo (Zf (Yl h fun x3 h => ?_))))
 refine Zc h Qdx ?_
 rintro _ H6 ⟨r5, rfl, h⟩
 refine Za (GL.nil ?_)
 exact Y1 I3 ⟨r5, rfl, h⟩
def Qlx (C : Ctx) (p_s : Str) (K : Bool → Heap → Prop) (H : Heap) : Prop :=
 lp (α := Int) 0 H (fun x1 J2 H3 =>
 ift (decide ((x1 : Int) < (List.length p_s : Int)))
 (ixs p_s x1 fun c5 =>
 ift (!(((((decide (((c5.toNat : Int) : Int) ≥ 97)) && (decide (((c5.toNat : Int) : Int) ≤ 122))) || ((decide (((c5.toNat : Int) : Int) ≥ 65)) && (decide (((c5.toNat : Int) : Int) ≤ 90)))) || ((decide (((c5.toNat : Int) : Int) ≥ 48)) && (decide (((c5.toNat : Int) : Int) ≤ 57)))) || (((c5.toNat : Int) : Int) == 95)))
 (K false H3)
 (J2 (w .i64 (x1 + 1)) H3))
 (K (decide (((List.length p_s : Int) : Int) ≤ 32)) H3))
theorem Qoh (C p_s K H) (h : Qlx C p_s K H) : Qh1 C p_s K H := by
 refine Ye Tryz.func128 rfl Tryz.ntmps128 [(0, sv p_s)] (Zo (Za (GL.nil (GC.seq (Zo (Zm (Zr (Zm (GL.nil (GC.block (Yp h (fun x1 => [(7, .int .i64 x1), (0, sv p_s), (6, .int .i64 (List.length p_s : Int))]) ?_)))))))))))
 intro x1 H3 J2 h
 refine Zo (Zi (.bool (decide ((x1 : Int) < (List.length p_s : Int)))) (GL.nil (GC.seq (Yd h (fun hc4 h => ?_) fun hc4 h => ?_))))
 refine GC.skip (GC.seq (GC.block (Zo (Zm (Za (GL.nil (Zo (Zm (Zm (Ys h fun c5 h => ?_))))))))))
 refine Za (GL.nil (Zo (Zm (Zi (.bool (decide (((c5.toNat : Int) : Int) ≥ 97))) (Zm (GL.cut0 3 [(18, .bool ((decide (((c5.toNat : Int) : Int) ≥ 97)) && (decide (((c5.toNat : Int) : Int) ≤ 122)))), (0, sv p_s), (4, .int .u8 (c5.toNat : Int)), (6, .int .i64 (List.length p_s : Int)), (7, .int .i64 x1)] ?_ ?_))))))
 rcases Zb (decide (((c5.toNat : Int) : Int) ≥ 97)) with hc8 | hc8
 refine Zu hc8 Ym (Zu hc8 (OV.ibin (v := .bool (decide (((c5.toNat : Int) : Int) ≤ 122))) rfl rfl rfl) (Zt hc8 ?_))
 exact GL.jump0 (fun _ _ h => h) () rfl ⟨(by rw [hc8]; rfl), rfl, rfl, rfl, rfl, trivial⟩
 refine Zk hc8 (Zk hc8 (Zn hc8 ?_))
 exact GL.jump0 (fun _ _ h => h) () rfl ⟨(by rw [hc8]; rfl), rfl, rfl, rfl, rfl, trivial⟩
 refine Zm (GL.cut0 7 [(26, .bool (((decide (((c5.toNat : Int) : Int) ≥ 97)) && (decide (((c5.toNat : Int) : Int) ≤ 122))) || ((decide (((c5.toNat : Int) : Int) ≥ 65)) && (decide (((c5.toNat : Int) : Int) ≤ 90))))), (0, sv p_s), (4, .int .u8 (c5.toNat : Int)), (6, .int .i64 (List.length p_s : Int)), (7, .int .i64 x1)] ?_ ?_)
 rcases Zb ((decide (((c5.toNat : Int) : Int) ≥ 97)) && (decide (((c5.toNat : Int) : Int) ≤ 122))) with hc9 | hc9
 refine Zk hc9 (Zk hc9 (Zk hc9 (GL.skip ⟨_, rfl, .inr rfl⟩ rfl (GL.skip ⟨_, rfl, .inr rfl⟩ rfl (Zk hc9 (Zt hc9 ?_))))))
 exact GL.jump0 (fun _ _ h => h) () rfl ⟨(by rw [hc9]; rfl), rfl, rfl, rfl, rfl, trivial⟩
 refine Zu hc9 Ym (Zu hc9 (OV.ibin (v := .bool (decide (((c5.toNat : Int) : Int) ≥ 65))) rfl rfl rfl) (Zu hc9 Ym (GL.cut0 3 [(25, .bool ((decide (((c5.toNat : Int) : Int) ≥ 65)) && (decide (((c5.toNat : Int) : Int) ≤ 90)))), (0, sv p_s), (4, .int .u8 (c5.toNat : Int)), (6, .int .i64 (List.length p_s : Int)), (7, .int .i64 x1), (19, .bool ((decide (((c5.toNat : Int) : Int) ≥ 97)) && (decide (((c5.toNat : Int) : Int) ≤ 122))))] ?_ ?_)))
 rcases Zb (decide (((c5.toNat : Int) : Int) ≥ 65)) with hc10 | hc10
 refine Zu hc10 Ym (Zu hc10 (OV.ibin (v := .bool (decide (((c5.toNat : Int) : Int) ≤ 90))) rfl rfl rfl) (Zu hc9 (OV.pickT rfl hc10 rfl) ?_))
 exact GL.jump0 (fun _ _ h => h) () rfl ⟨(by rw [hc10]; rfl), rfl, rfl, rfl, rfl, rfl, trivial⟩
 refine Zk hc10 (Zk hc10 (Zu hc9 (OV.pickF rfl hc10 rfl) ?_))
 exact GL.jump0 (fun _ _ h => h) () rfl ⟨(by rw [hc10]; rfl), rfl, rfl, rfl, rfl, rfl, trivial⟩
 refine Zn hc9 ?_
 exact GL.jump0 (fun _ _ h => h) () rfl ⟨(by rw [hc9]; rfl), rfl, rfl, rfl, rfl, trivial⟩
 refine Zm (GL.cut0 7 [(34, .bool ((((decide (((c5.toNat : Int) : Int) ≥ 97)) && (decide (((c5.toNat : Int) : Int) ≤ 122))) || ((decide (((c5.toNat : Int) : Int) ≥ 65)) && (decide (((c5.toNat : Int) : Int) ≤ 90)))) || ((decide (((c5.toNat : Int) : Int) ≥ 48)) && (decide (((c5.toNat : Int) : Int) ≤ 57))))), (0, sv p_s), (4, .int .u8 (c5.toNat : Int)), (6, .int .i64 (List.length p_s : Int)), (7, .int .i64 x1)] ?_ ?_)
 rcases Zb (((decide (((c5.toNat : Int) : Int) ≥ 97)) && (decide (((c5.toNat : Int) : Int) ≤ 122))) || ((decide (((c5.toNat : Int) : Int) ≥ 65)) && (decide (((c5.toNat : Int) : Int) ≤ 90)))) with hc11 | hc11
 refine Zk hc11 (Zk hc11 (Zk hc11 (GL.skip ⟨_, rfl, .inr rfl⟩ rfl (GL.skip ⟨_, rfl, .inr rfl⟩ rfl (Zk hc11 (Zt hc11 ?_))))))
 exact GL.jump0 (fun _ _ h => h) () rfl ⟨(by rw [hc11]; rfl), rfl, rfl, rfl, rfl, trivial⟩
 refine Zu hc11 Ym (Zu hc11 (OV.ibin (v := .bool (decide (((c5.toNat : Int) : Int) ≥ 48))) rfl rfl rfl) (Zu hc11 Ym (GL.cut0 3 [(33, .bool ((decide (((c5.toNat : Int) : Int) ≥ 48)) && (decide (((c5.toNat : Int) : Int) ≤ 57)))), (0, sv p_s), (4, .int .u8 (c5.toNat : Int)), (6, .int .i64 (List.length p_s : Int)), (7, .int .i64 x1), (27, .bool (((decide (((c5.toNat : Int) : Int) ≥ 97)) && (decide (((c5.toNat : Int) : Int) ≤ 122))) || ((decide (((c5.toNat : Int) : Int) ≥ 65)) && (decide (((c5.toNat : Int) : Int) ≤ 90)))))] ?_ ?_)))
 rcases Zb (decide (((c5.toNat : Int) : Int) ≥ 48)) with hc12 | hc12
 refine Zu hc12 Ym (Zu hc12 (OV.ibin (v := .bool (decide (((c5.toNat : Int) : Int) ≤ 57))) rfl rfl rfl) (Zu hc11 (OV.pickT rfl hc12 rfl) ?_))
 exact GL.jump0 (fun _ _ h => h) () rfl ⟨(by rw [hc12]; rfl), rfl, rfl, rfl, rfl, rfl, trivial⟩
 refine Zk hc12 (Zk hc12 (Zu hc11 (OV.pickF rfl hc12 rfl) ?_))
 exact GL.jump0 (fun _ _ h => h) () rfl ⟨(by rw [hc12]; rfl), rfl, rfl, rfl, rfl, rfl, trivial⟩
 refine Zn hc11 ?_
 exact GL.jump0 (fun _ _ h => h) () rfl ⟨(by rw [hc11]; rfl), rfl, rfl, rfl, rfl, trivial⟩
 refine Zm (GL.cut0 3 [(38, .bool (((((decide (((c5.toNat : Int) : Int) ≥ 97)) && (decide (((c5.toNat : Int) : Int) ≤ 122))) || ((decide (((c5.toNat : Int) : Int) ≥ 65)) && (decide (((c5.toNat : Int) : Int) ≤ 90)))) || ((decide (((c5.toNat : Int) : Int) ≥ 48)) && (decide (((c5.toNat : Int) : Int) ≤ 57)))) || (((c5.toNat : Int) : Int) == 95))), (0, sv p_s), (6, .int .i64 (List.length p_s : Int)), (7, .int .i64 x1)] ?_ ?_)
 rcases Zb ((((decide (((c5.toNat : Int) : Int) ≥ 97)) && (decide (((c5.toNat : Int) : Int) ≤ 122))) || ((decide (((c5.toNat : Int) : Int) ≥ 65)) && (decide (((c5.toNat : Int) : Int) ≤ 90)))) || ((decide (((c5.toNat : Int) : Int) ≥ 48)) && (decide (((c5.toNat : Int) : Int) ≤ 57)))) with hc13 | hc13
 refine Zk hc13 (Zk hc13 (Zt hc13 ?_))
 exact GL.jump0 (fun _ _ h => h) () rfl ⟨(by rw [hc13]; rfl), rfl, rfl, rfl, trivial⟩
 refine Zu hc13 Ym (Zu hc13 (OV.ibin (v := .bool (((c5.toNat : Int) : Int) == 95)) rfl rfl rfl) (Zn hc13 ?_))
 exact GL.jump0 (fun _ _ h => h) () rfl ⟨(by rw [hc13]; rfl), rfl, rfl, rfl, trivial⟩
 refine Zv (OV.not rfl) (GL.nil (Yd h (fun hc14 h => ?_) fun hc14 h => ?_))
 refine Zo (Za (GL.nil ?_))
 exact Y1 I3 ⟨false, rfl, h⟩
 refine GC.skip_to (fun _ _ h => h) (GC.region (Zi (.int .i64 (w .i64 (x1 + 1))) (Zm ?_)))
 exact Yj I3 (w .i64 (x1 + 1)) h
 refine GC.exit_to (fun _ _ h => h) (Zo (Zm (Zr (Zi (.bool (decide (((List.length p_s : Int) : Int) ≤ 32))) (Za (GL.nil ?_))))))
 exact Y1 I3 ⟨(decide (((List.length p_s : Int) : Int) ≤ 32)), rfl, h⟩
def QaI (C : Ctx) (p_s : Sl) (p_f : Value) (K : Bool → Heap → Prop) (H : Heap) : Prop :=
 Qbe C p_s p_f (fun r1 H2 =>
 K (decide ((r1 : Int) ≥ 0)) H2) H
theorem Qcs (C p_s p_f K H) (h : QaI C p_s p_f K H) : QaN C p_s p_f K H := by
 refine Ye Tryz.func130 rfl Tryz.ntmps130 [(0, slv p_s), (1, p_f)] (Zo (Za (GL.nil (Zo (Zm (Zm (Zc h Qc9 ?_)))))))
 rintro _ H2 ⟨r1, rfl, h⟩
 refine Zi (.bool (decide ((r1 : Int) ≥ 0))) (Za (GL.nil ?_))
 exact Y1 I3 ⟨(decide ((r1 : Int) ≥ 0)), rfl, h⟩
def QeA (C : Ctx) (p_x : Qj) (v0 : Nat × Nat) (K : Bool → Heap → Prop) (H : Heap) : Prop :=
 nw (Qj.c p_x) (fun b1 H2 =>
 ldV H2 v0 fun x3 =>
 ldT H2 Qj.c (b1, 0) fun x5 =>
 callU Tryz.prog C x3 [.agg (Qj.c x5).toArray] H2 (fun v H8 => ∃ (r7 : Bool), v = .bool r7 ∧
 K (!r7) H8)) H
theorem Qhn (C p_x v0 K H) (h : QeA C p_x v0 K H) : QeR C p_x v0 K H := by
 refine Ye Tryz.func131 rfl Tryz.ntmps131 [(0, .agg (Qj.c p_x).toArray), (1, pv (some v0))] (Zo (GL.box (v := .agg (Qj.c p_x).toArray) (cs := Qj.c p_x) h trivial rfl rfl rfl ?_))
 intro b1 H2 h
 refine Za (GL.nil (Zo (Yl h fun x3 h => ?_)))
 obtain ⟨x5, hr6, h⟩ := h
 refine Zv (OV.loadT rfl rfl rfl hr6) (GL.callU (xv := x3) (vs := [.agg (Qj.c x5).toArray]) h trivial rfl rfl rfl ?_)
 rintro _ H8 ⟨r7, rfl, h⟩
 refine Zv (OV.not rfl) (Za (GL.nil ?_))
 exact Y1 I3 ⟨(!r7), rfl, h⟩
def Qau (C : Ctx) (p_s : Sl) (p_f : Value) (K : Bool → Heap → Prop) (H : Heap) : Prop :=
 Qa0 C p_s p_f (fun r1 H2 =>
 K (decide ((r1 : Int) ≥ 0)) H2) H
theorem Qcb (C p_s p_f K H) (h : Qau C p_s p_f K H) : QaD C p_s p_f K H := by
 refine Ye Tryz.func132 rfl Tryz.ntmps132 [(0, slv p_s), (1, p_f)] (Zo (Za (GL.nil (Zo (Zm (Zm (Zc h QcL ?_)))))))
 rintro _ H2 ⟨r1, rfl, h⟩
 refine Zi (.bool (decide ((r1 : Int) ≥ 0))) (Za (GL.nil ?_))
 exact Y1 I3 ⟨(decide ((r1 : Int) ≥ 0)), rfl, h⟩
def Qeg (C : Ctx) (p_x : Qf) (v0 : Nat × Nat) (K : Bool → Heap → Prop) (H : Heap) : Prop :=
 nw (Qf.c p_x) (fun b1 H2 =>
 ldV H2 v0 fun x3 =>
 ldT H2 Qf.c (b1, 0) fun x5 =>
 callU Tryz.prog C x3 [.agg (Qf.c x5).toArray] H2 (fun v H8 => ∃ (r7 : Bool), v = .bool r7 ∧
 K (!r7) H8)) H
theorem Qg2 (C p_x v0 K H) (h : Qeg C p_x v0 K H) : Qeu C p_x v0 K H := by
 refine Ye Tryz.func133 rfl Tryz.ntmps133 [(0, .agg (Qf.c p_x).toArray), (1, pv (some v0))] (Zo (GL.box (v := .agg (Qf.c p_x).toArray) (cs := Qf.c p_x) h trivial rfl rfl rfl ?_))
 intro b1 H2 h
 refine Za (GL.nil (Zo (Yl h fun x3 h => ?_)))
 obtain ⟨x5, hr6, h⟩ := h
 refine Zv (OV.loadT rfl rfl rfl hr6) (GL.callU (xv := x3) (vs := [.agg (Qf.c x5).toArray]) h trivial rfl rfl rfl ?_)
 rintro _ H8 ⟨r7, rfl, h⟩
 refine Zv (OV.not rfl) (Za (GL.nil ?_))
 exact Y1 I3 ⟨(!r7), rfl, h⟩
def QgT (C : Ctx) (p_l : Sl) (p_is : Value) (K : Bool → Heap → Prop) (H : Heap) : Prop :=
 (Value.cells p_is = #[p_is]) ∧ nw ([p_is]) (fun b1 H2 =>
 QbK C p_l (.func (.func 186) (List.toArray []) (List.toArray [pv (some (b1, 0))]) : Value) (fun r4 H5 =>
 K (!r4) H5) H2) H
theorem QkA (C p_l p_is K H) (h : QgT C p_l p_is K H) : QaE C p_l p_is K H := by
 refine Ye Tryz.func134 rfl Tryz.ntmps134 [(0, slv p_l), (1, p_is)] (Zo ?_)
 obtain ⟨u3, h⟩ := h
 refine GL.box (v := p_is) (cs := [p_is]) h trivial rfl rfl u3 ?_
 intro b1 H2 h
 refine Za (GL.nil (Zo (Zm (Zv (OV.makeFunc (vs := []) (us := [pv (some (b1, 0))]) rfl rfl) (Zc h Qea ?_)))))
 rintro _ H5 ⟨r4, rfl, h⟩
 refine Zv (OV.not rfl) (Za (GL.nil ?_))
 exact Y1 I3 ⟨(!r4), rfl, h⟩
def Qk0 (C : Ctx) (p_s : Str) (K : Bool → Heap → Prop) (H : Heap) : Prop :=
 Qgk C p_s [39] (fun r1 H2 =>
 jn (α := Bool) (fun b3 H15 =>
 K b3 H15)
 (fun J4 => ift r1
 (slS p_s 1 (List.length p_s : Int) fun t7 =>
 Qbb C t7 (fun r13 H14 =>
 J4 r13 H14) H2)
 (J4 false H2))) H
theorem QnC (C p_s K H) (h : Qk0 C p_s K H) : QiW C p_s K H := by
 refine Ye Tryz.func135 rfl Tryz.ntmps135 [(0, sv p_s)] (Zo (Za (GL.nil (Zo (Zm (Zc h QjF ?_))))))
 rintro _ H2 ⟨r1, rfl, h⟩
 refine Zm ?_
 obtain ⟨J4, h, hR5⟩ := h
 refine GL.cut (α := Bool) 4 J4 (fun b3 => [(9, .bool b3)]) ?_ ?_
 rcases h.em with ⟨u6, h⟩ | ⟨u6, h⟩
 refine Zu u6 Ym ?_
 obtain ⟨h8, h9, h10, t7, h11, h⟩ := h
 refine Zu u6 (OV.sliceStr (s := p_s) h8 h9 h10 h11 rfl rfl rfl rfl rfl rfl) (GL.call h (Yt u6) rfl Qbm (vs := [sv t7]) rfl ?_)
 rintro _ H14 ⟨r13, rfl, h⟩
 refine Zt u6 ?_
 exact Yj I3 r13 h
 refine Zk u6 (Zk u6 (Zk u6 (Zn u6 ?_)))
 exact Yj I3 false h
 intro b3 H15 h
 replace h := hR5 b3 H15 h
 refine Za (GL.nil ?_)
 exact Y1 I3 ⟨b3, rfl, h⟩
def Qe2 (C : Ctx) (p_l : Sl) (p_is : Value) (K : Bool → Heap → Prop) (H : Heap) : Prop :=
 (Value.cells p_is = #[p_is]) ∧ nw ([p_is]) (fun b1 H2 =>
 QaB C p_l (.func (.func 189) (List.toArray []) (List.toArray [pv (some (b1, 0))]) : Value) (fun r4 H5 =>
 K (!r4) H5) H2) H
theorem QhQ (C p_l p_is K H) (h : Qe2 C p_l p_is K H) : Qad C p_l p_is K H := by
 refine Ye Tryz.func136 rfl Tryz.ntmps136 [(0, slv p_l), (1, p_is)] (Zo ?_)
 obtain ⟨u3, h⟩ := h
 refine GL.box (v := p_is) (cs := [p_is]) h trivial rfl rfl u3 ?_
 intro b1 H2 h
 refine Za (GL.nil (Zo (Zm (Zv (OV.makeFunc (vs := []) (us := [pv (some (b1, 0))]) rfl rfl) (Zc h Qcc ?_)))))
 rintro _ H5 ⟨r4, rfl, h⟩
 refine Zv (OV.not rfl) (Za (GL.nil ?_))
 exact Y1 I3 ⟨(!r4), rfl, h⟩
def QhN (C : Ctx) (p_c : Qe) (K : Bool → Heap → Prop) (H : Heap) : Prop :=
 nw (Qe.c p_c) (fun b1 H2 =>
 ldS H2 ((b1, 0).1, (b1, 0).2 + 0) fun x3 =>
 Qbb C x3 (fun r5 H6 =>
 jn (α := Bool) (fun b7 H15 =>
 K b7 H15)
 (fun J8 => ift r5
 (ldL H6 ((b1, 0).1, (b1, 0).2 + 1) fun x11 =>
 QbW C x11 false (fun r13 H14 =>
 J8 r13 H14) H6)
 (J8 false H6))) H2) H
theorem Qk9 (C p_c K H) (h : QhN C p_c K H) : QbS C p_c K H := by
 refine Ye Tryz.func137 rfl Tryz.ntmps137 [(0, .agg (Qe.c p_c).toArray)] (Zo (GL.box (v := .agg (Qe.c p_c).toArray) (cs := Qe.c p_c) h trivial rfl rfl rfl ?_))
 intro b1 H2 h
 refine Za (GL.nil (Zo (Zf (Yl h fun x3 h => ?_))))
 refine Zc h Qbm ?_
 rintro _ H6 ⟨r5, rfl, h⟩
 refine Zm ?_
 obtain ⟨J8, h, hR9⟩ := h
 refine GL.cut (α := Bool) 4 J8 (fun b7 => [(10, .bool b7)]) ?_ ?_
 rcases h.em with ⟨u10, h⟩ | ⟨u10, h⟩
 refine Zu u10 Yf ?_
 obtain ⟨x11, v12, h⟩ := h
 refine Zu u10 (Yo v12) (GL.call h (Yt u10) rfl QjS (vs := [slv x11, .bool false]) rfl ?_)
 rintro _ H14 ⟨r13, rfl, h⟩
 refine Zt u10 ?_
 exact Yj I3 r13 h
 refine Zk u10 (Zk u10 (Zk u10 (Zn u10 ?_)))
 exact Yj I3 false h
 intro b7 H15 h
 replace h := hR9 b7 H15 h
 refine Za (GL.nil ?_)
 exact Y1 I3 ⟨b7, rfl, h⟩
def QaJ (C : Ctx) (p_s : Sl) (p_f : Value) (K : Bool → Heap → Prop) (H : Heap) : Prop :=
 Qbf C p_s p_f (fun r1 H2 =>
 K (decide ((r1 : Int) ≥ 0)) H2) H
theorem Qct (C p_s p_f K H) (h : QaJ C p_s p_f K H) : QaO C p_s p_f K H := by
 refine Ye Tryz.func138 rfl Tryz.ntmps138 [(0, slv p_s), (1, p_f)] (Zo (Za (GL.nil (Zo (Zm (Zm (Zc h Qda ?_)))))))
 rintro _ H2 ⟨r1, rfl, h⟩
 refine Zi (.bool (decide ((r1 : Int) ≥ 0))) (Za (GL.nil ?_))
 exact Y1 I3 ⟨(decide ((r1 : Int) ≥ 0)), rfl, h⟩
def QeB (C : Ctx) (p_x : Qh) (v0 : Nat × Nat) (K : Bool → Heap → Prop) (H : Heap) : Prop :=
 nw (Qh.c p_x) (fun b1 H2 =>
 ldV H2 v0 fun x3 =>
 ldT H2 Qh.c (b1, 0) fun x5 =>
 callU Tryz.prog C x3 [.agg (Qh.c x5).toArray] H2 (fun v H8 => ∃ (r7 : Bool), v = .bool r7 ∧
 K (!r7) H8)) H
theorem Qho (C p_x v0 K H) (h : QeB C p_x v0 K H) : QeS C p_x v0 K H := by
 refine Ye Tryz.func139 rfl Tryz.ntmps139 [(0, .agg (Qh.c p_x).toArray), (1, pv (some v0))] (Zo (GL.box (v := .agg (Qh.c p_x).toArray) (cs := Qh.c p_x) h trivial rfl rfl rfl ?_))
 intro b1 H2 h
 refine Za (GL.nil (Zo (Yl h fun x3 h => ?_)))
 obtain ⟨x5, hr6, h⟩ := h
 refine Zv (OV.loadT rfl rfl rfl hr6) (GL.callU (xv := x3) (vs := [.agg (Qh.c x5).toArray]) h trivial rfl rfl rfl ?_)
 rintro _ H8 ⟨r7, rfl, h⟩
 refine Zv (OV.not rfl) (Za (GL.nil ?_))
 exact Y1 I3 ⟨(!r7), rfl, h⟩
def Qez (C : Ctx) (p_l : Sl) (p_is : Value) (K : Bool → Heap → Prop) (H : Heap) : Prop :=
 (Value.cells p_is = #[p_is]) ∧ nw ([p_is]) (fun b1 H2 =>
 Qap C p_l (.func (.func 192) (List.toArray []) (List.toArray [pv (some (b1, 0))]) : Value) (fun r4 H5 =>
 K (!r4) H5) H2) H
theorem Qhm (C p_l p_is K H) (h : Qez C p_l p_is K H) : Q3 C p_l p_is K H := by
 refine Ye Tryz.func140 rfl Tryz.ntmps140 [(0, slv p_l), (1, p_is)] (Zo ?_)
 obtain ⟨u3, h⟩ := h
 refine GL.box (v := p_is) (cs := [p_is]) h trivial rfl rfl u3 ?_
 intro b1 H2 h
 refine Za (GL.nil (Zo (Zm (Zv (OV.makeFunc (vs := []) (us := [pv (some (b1, 0))]) rfl rfl) (Zc h Qb0 ?_)))))
 rintro _ H5 ⟨r4, rfl, h⟩
 refine Zv (OV.not rfl) (Za (GL.nil ?_))
 exact Y1 I3 ⟨(!r4), rfl, h⟩
def Qir (C : Ctx) (p_f : Qb) (v0 : Nat × Nat) (K : Bool → Heap → Prop) (H : Heap) : Prop :=
 nw (Qb.c p_f) (fun b1 H2 =>
 ldS H2 ((b1, 0).1, (b1, 0).2 + 0) fun x3 =>
 Qbb C x3 (fun r5 H6 =>
 jn (α := Bool) (fun b7 H20 =>
 jn (α := Bool) (fun b21 H29 =>
 K b21 H29)
 (fun J22 => ift b7
 (ldT H20 Qg.c ((b1, 0).1, (b1, 0).2 + 1) fun x25 =>
 Qdu C x25 (fun r27 H28 =>
 J22 r27 H28) H20)
 (J22 false H20)))
 (fun J8 => ift r5
 (J8 true H6)
 (ldB H6 v0 fun x11 =>
 jn (α := Bool) (fun b13 H19 =>
 J8 b13 H19)
 (fun J14 => ift (!x11)
 (ldS H6 ((b1, 0).1, (b1, 0).2 + 0) fun x17 =>
 J14 (x17 == ([] : Str)) H6)
 (J14 false H6))))) H2) H
theorem QlF (C p_f v0 K H) (h : Qir C p_f v0 K H) : Qcm C p_f v0 K H := by
 refine Ye Tryz.func141 rfl Tryz.ntmps141 [(0, .agg (Qb.c p_f).toArray), (1, pv (some v0))] (Zo (GL.box (v := .agg (Qb.c p_f).toArray) (cs := Qb.c p_f) h trivial rfl rfl rfl ?_))
 intro b1 H2 h
 refine Za (GL.nil (Zo (Zf (Yl h fun x3 h => ?_))))
 refine Zc h Qbm ?_
 rintro _ H6 ⟨r5, rfl, h⟩
 refine Zm ?_
 obtain ⟨J8, h, hR9⟩ := h
 refine GL.cut (α := Bool) 8 J8 (fun b7 => [(15, .bool b7), (2, pv (some (b1, 0)))]) ?_ ?_
 rcases h.em with ⟨u10, h⟩ | ⟨u10, h⟩
 refine Zk u10 (Zk u10 (Zk u10 (GL.skip ⟨_, rfl, .inr rfl⟩ rfl (GL.skip ⟨_, rfl, .inr rfl⟩ rfl (GL.skip ⟨_, rfl, .inr rfl⟩ rfl (Zk u10 (Zt u10 ?_)))))))
 exact Yj I3 true h
 obtain ⟨x11, hr12, h⟩ := h
 refine Zu u10 (Yo hr12) (Zu u10 (OV.not rfl) (Zu u10 Ym ?_))
 obtain ⟨J14, h, hR15⟩ := h
 refine GL.cut (α := Bool) 4 J14 (fun b13 => [(14, .bool b13), (2, pv (some (b1, 0))), (7, .bool r5)]) ?_ ?_
 rcases h.em with ⟨u16, h⟩ | ⟨u16, h⟩
 refine Zu u16 Yf ?_
 obtain ⟨x17, hr18, h⟩ := h
 refine Zu u16 (Yo hr18) (Zu u16 (OV.sbin (a := x17) (b := ([] : Str)) (v := .bool (x17 == ([] : Str))) rfl rfl rfl) (Zu u10 (OV.pickT rfl u16 rfl) ?_))
 exact Yj I3 (x17 == ([] : Str)) h
 refine Zk u16 (Zk u16 (Zk u16 (Zu u10 (OV.pickF rfl u16 rfl) ?_)))
 exact Yj I3 false h
 intro b13 H19 h
 replace h := hR15 b13 H19 h
 refine Zn u10 ?_
 exact Yj I3 b13 h
 intro b7 H20 h
 replace h := hR9 b7 H20 h
 refine Zm ?_
 obtain ⟨J22, h, hR23⟩ := h
 refine GL.cut (α := Bool) 4 J22 (fun b21 => [(20, .bool b21)]) ?_ ?_
 rcases h.em with ⟨u24, h⟩ | ⟨u24, h⟩
 refine Zu u24 Yf ?_
 obtain ⟨x25, hr26, h⟩ := h
 refine Zu u24 (OV.loadT rfl rfl rfl hr26) (GL.call h (Yt u24) rfl QkT (vs := [.agg (Qg.c x25).toArray]) rfl ?_)
 rintro _ H28 ⟨r27, rfl, h⟩
 refine Zt u24 ?_
 exact Yj I3 r27 h
 refine Zk u24 (Zk u24 (Zk u24 (Zn u24 ?_)))
 exact Yj I3 false h
 intro b21 H29 h
 replace h := hR23 b21 H29 h
 refine Za (GL.nil ?_)
 exact Y1 I3 ⟨b21, rfl, h⟩
def Qk1 (C : Ctx) (p_t : Qg) (K : Bool → Heap → Prop) (H : Heap) : Prop :=
 nw (Qg.c p_t) (fun b1 H2 =>
 ldL H2 ((b1, 0).1, (b1, 0).2 + 1) fun x3 =>
 ldS H2 ((b1, 0).1, (b1, 0).2 + 0) fun x5 =>
 jn (α := Bool) (fun x8 H9 =>
 ift x8
 (K (((Sl.len x3 : Int) : Int) == 0) H9)
 (ift (x5 == ([116, 117, 112, 108, 101] : Str))
 (jn (α := Bool) (fun b17 H25 =>
 K b17 H25)
 (fun J18 => ift ((((Sl.len x3 : Int) : Int) != 1) && (decide (((Sl.len x3 : Int) : Int) ≤ 16)))
 (ldL H9 ((b1, 0).1, (b1, 0).2 + 1) fun x21 =>
 Q4 C x21 (.func (.func 142) (List.toArray []) (List.toArray []) : Value) (fun r23 H24 =>
 J18 r23 H24) H9)
 (J18 false H9)))
 (ldS H9 ((b1, 0).1, (b1, 0).2 + 0) fun x26 =>
 QiW C x26 (fun r28 H29 =>
 jn (α := Bool) (fun b31 H49 =>
 K b31 H49)
 (fun J32 => ift (r28 && (((Sl.len x3 : Int) : Int) == 0))
 (J32 true H29)
 (ldS H29 ((b1, 0).1, (b1, 0).2 + 0) fun x35 =>
 Qfo C x35 (fun r37 H38 =>
 jn (α := Bool) (fun b40 H48 =>
 J32 b40 H48)
 (fun J41 => ift (r37 && (decide (((Sl.len x3 : Int) : Int) ≤ 8)))
 (ldL H38 ((b1, 0).1, (b1, 0).2 + 1) fun x44 =>
 Q4 C x44 (.func (.func 142) (List.toArray []) (List.toArray []) : Value) (fun r46 H47 =>
 J41 r46 H47) H38)
 (J41 false H38))) H29))) H9)))
 (fun J7 => ift (x5 == ([98, 111, 111, 108] : Str))
 (J7 (x5 == ([98, 111, 111, 108] : Str)) H2)
 (ift (x5 == ([105, 110, 116] : Str))
 (J7 (x5 == ([105, 110, 116] : Str)) H2)
 (ift (x5 == ([98, 105, 103] : Str))
 (J7 (x5 == ([98, 105, 103] : Str)) H2)
 (J7 (x5 == ([116, 101, 120, 116] : Str)) H2))))) H
theorem QnD (C p_t K H) (h : Qk1 C p_t K H) : Qdu C p_t K H := by
 refine Ye Tryz.func142 rfl Tryz.ntmps142 [(0, .agg (Qg.c p_t).toArray)] (Zo (GL.box (v := .agg (Qg.c p_t).toArray) (cs := Qg.c p_t) h trivial rfl rfl rfl ?_))
 intro b1 H2 h
 refine Za (GL.nil (Zo (Zf (Yl h fun x3 h => ?_))))
 refine Zq (Za (GL.nil (GC.seq (Zo (Zf (Yl h fun x5 h => ?_))))))
 refine GL.nil (GC.block ?_)
 obtain ⟨J7, h, hR10⟩ := h
 refine GC.join (α := Bool) J7 (fun x8 => [(9, .bool x8), (1, pv (some (b1, 0))), (3, .int .i64 (Sl.len x3 : Int)), (8, sv x5)]) ?_ ?_
 refine Zo (Zv (OV.sbin (a := x5) (b := ([98, 111, 111, 108] : Str)) (v := .bool (x5 == ([98, 111, 111, 108] : Str))) rfl rfl rfl) (Za (GL.nil (Yd h (fun u11 h => ?_) fun u11 h => ?_))))
 exact Yk I3 (x5 == ([98, 111, 111, 108] : Str)) h
 refine Zo (Zv (OV.sbin (a := x5) (b := ([105, 110, 116] : Str)) (v := .bool (x5 == ([105, 110, 116] : Str))) rfl rfl rfl) (Za (GL.nil (Yd h (fun u12 h => ?_) fun u12 h => ?_))))
 exact Yk I3 (x5 == ([105, 110, 116] : Str)) h
 refine Zo (Zv (OV.sbin (a := x5) (b := ([98, 105, 103] : Str)) (v := .bool (x5 == ([98, 105, 103] : Str))) rfl rfl rfl) (Za (GL.nil (Yd h (fun u13 h => ?_) fun u13 h => ?_))))
 exact Yk I3 (x5 == ([98, 105, 103] : Str)) h
 refine GC.region (Zv (OV.sbin (a := x5) (b := ([116, 101, 120, 116] : Str)) (v := .bool (x5 == ([116, 101, 120, 116] : Str))) rfl rfl rfl) (Za ?_))
 exact Yj I3 (x5 == ([116, 101, 120, 116] : Str)) h
 intro x8 H9 h
 replace h := hR10 x8 H9 h
 refine Yd h (fun u14 h => ?_) fun u14 h => ?_
 refine Zo (Zm (Zi (.bool (((Sl.len x3 : Int) : Int) == 0)) (Za (GL.nil ?_))))
 exact Y1 I3 ⟨(((Sl.len x3 : Int) : Int) == 0), rfl, h⟩
 refine Zo (Zv (OV.sbin (a := x5) (b := ([116, 117, 112, 108, 101] : Str)) (v := .bool (x5 == ([116, 117, 112, 108, 101] : Str))) rfl rfl rfl) (Za (GL.nil (Yd h (fun u15 h => ?_) fun u15 h => ?_))))
 refine Zo (Zm (Zi (.bool (((Sl.len x3 : Int) : Int) != 1)) (Zm (GL.cut0 3 [(23, .bool ((((Sl.len x3 : Int) : Int) != 1) && (decide (((Sl.len x3 : Int) : Int) ≤ 16)))), (1, pv (some (b1, 0)))] ?_ ?_))))
 rcases Zb (((Sl.len x3 : Int) : Int) != 1) with u16 | u16
 refine Zu u16 Ym (Zu u16 (OV.ibin (v := .bool (decide (((Sl.len x3 : Int) : Int) ≤ 16))) rfl rfl rfl) (Zt u16 ?_))
 exact GL.jump0 (fun _ _ h => h) () rfl ⟨(by rw [u16]; rfl), rfl, trivial⟩
 refine Zk u16 (Zk u16 (Zn u16 ?_))
 exact GL.jump0 (fun _ _ h => h) () rfl ⟨(by rw [u16]; rfl), rfl, trivial⟩
 refine Zm ?_
 obtain ⟨J18, h, hR19⟩ := h
 refine GL.cut (α := Bool) 4 J18 (fun b17 => [(28, .bool b17)]) ?_ ?_
 rcases h.em with ⟨u20, h⟩ | ⟨u20, h⟩
 refine Zu u20 Yf ?_
 obtain ⟨x21, v22, h⟩ := h
 refine Zu u20 (Yo v22) (GL.call h (Yt u20) rfl QfX (vs := [slv x21, .func (.func 142) (List.toArray []) (List.toArray [])]) rfl ?_)
 rintro _ H24 ⟨r23, rfl, h⟩
 refine Zt u20 ?_
 exact Yj I3 r23 h
 refine Zk u20 (Zk u20 (Zk u20 (Zn u20 ?_)))
 exact Yj I3 false h
 intro b17 H25 h
 replace h := hR19 b17 H25 h
 refine Za (GL.nil ?_)
 exact Y1 I3 ⟨b17, rfl, h⟩
 refine GC.skip_to (fun _ _ h => h) (Zo (Zf ?_))
 refine Yl h fun x26 h => ?_
 refine Zc h QkS ?_
 rintro _ H29 ⟨r28, rfl, h⟩
 refine Zm (GL.cut0 3 [(35, .bool (r28 && (((Sl.len x3 : Int) : Int) == 0))), (1, pv (some (b1, 0))), (3, .int .i64 (Sl.len x3 : Int))] ?_ ?_)
 rcases Bool.eq_false_or_eq_true r28 with u30 | u30
 refine Zu u30 Ym (Zu u30 (OV.ibin (v := .bool (((Sl.len x3 : Int) : Int) == 0)) rfl rfl rfl) (Zt u30 ?_))
 exact GL.jump0 (fun _ _ h => h) () rfl ⟨(by rw [u30]; rfl), rfl, rfl, trivial⟩
 refine Zk u30 (Zk u30 (Zn u30 ?_))
 exact GL.jump0 (fun _ _ h => h) () rfl ⟨(by rw [u30]; rfl), rfl, rfl, trivial⟩
 refine Zm ?_
 obtain ⟨J32, h, hR33⟩ := h
 refine GL.cut (α := Bool) 13 J32 (fun b31 => [(49, .bool b31)]) ?_ ?_
 rcases h.em with ⟨u34, h⟩ | ⟨u34, h⟩
 refine Zk u34 (Zk u34 (Zk u34 (Zk u34 (GL.skip ⟨_, rfl, .inr rfl⟩ rfl (GL.skip ⟨_, rfl, .inr rfl⟩ rfl (Zk u34 (Zk u34 (GL.skip ⟨_, rfl, .inr rfl⟩ rfl (GL.skip ⟨_, rfl, .inr rfl⟩ rfl (GL.skip ⟨_, rfl, .inr rfl⟩ rfl (Zk u34 (Zt u34 ?_))))))))))))
 exact Yj I3 true h
 refine Zu u34 Yf ?_
 obtain ⟨x35, v36, h⟩ := h
 refine Zu u34 (Yo v36) (GL.call h (Yt u34) rfl QgN (vs := [sv x35]) rfl ?_)
 rintro _ H38 ⟨r37, rfl, h⟩
 refine Zu u34 Ym (GL.cut0 3 [(43, .bool (r37 && (decide (((Sl.len x3 : Int) : Int) ≤ 8)))), (1, pv (some (b1, 0))), (36, .bool (r28 && (((Sl.len x3 : Int) : Int) == 0)))] ?_ ?_)
 rcases Bool.eq_false_or_eq_true r37 with u39 | u39
 refine Zu u39 Ym (Zu u39 (OV.ibin (v := .bool (decide (((Sl.len x3 : Int) : Int) ≤ 8))) rfl rfl rfl) (Zu u34 (OV.pickT rfl u39 rfl) ?_))
 exact GL.jump0 (fun _ _ h => h) () rfl ⟨(by rw [u39]; rfl), rfl, rfl, trivial⟩
 refine Zk u39 (Zk u39 (Zu u34 (OV.pickF rfl u39 rfl) ?_))
 exact GL.jump0 (fun _ _ h => h) () rfl ⟨(by rw [u39]; rfl), rfl, rfl, trivial⟩
 refine Zu u34 Ym ?_
 obtain ⟨J41, h, hR42⟩ := h
 refine GL.cut (α := Bool) 4 J41 (fun b40 => [(48, .bool b40), (36, .bool (r28 && (((Sl.len x3 : Int) : Int) == 0)))]) ?_ ?_
 rcases h.em with ⟨u43, h⟩ | ⟨u43, h⟩
 refine Zu u43 Yf ?_
 obtain ⟨x44, v45, h⟩ := h
 refine Zu u43 (Yo v45) (GL.call h (Yt u43) rfl QfX (vs := [slv x44, .func (.func 142) (List.toArray []) (List.toArray [])]) rfl ?_)
 rintro _ H47 ⟨r46, rfl, h⟩
 refine Zu u34 (OV.pickT rfl u43 rfl) ?_
 exact Yj I3 r46 h
 refine Zk u43 (Zk u43 (Zk u43 (Zu u34 (OV.pickF rfl u43 rfl) ?_)))
 exact Yj I3 false h
 intro b40 H48 h
 replace h := hR42 b40 H48 h
 refine Zn u34 ?_
 exact Yj I3 b40 h
 intro b31 H49 h
 replace h := hR33 b31 H49 h
 refine Za (GL.nil ?_)
 exact Y1 I3 ⟨b31, rfl, h⟩
def Qbh (C : Ctx) (p_s : Sl) (p_f : Value) (K : Bool → Heap → Prop) (H : Heap) : Prop :=
 QbG C p_s p_f (fun r1 H2 =>
 K (decide ((r1 : Int) ≥ 0)) H2) H
theorem Qdl (C p_s p_f K H) (h : Qbh C p_s p_f K H) : Qbk C p_s p_f K H := by
 refine Ye Tryz.func143 rfl Tryz.ntmps143 [(0, slv p_s), (1, p_f)] (Zo (Za (GL.nil (Zo (Zm (Zm (Zc h Qd2 ?_)))))))
 rintro _ H2 ⟨r1, rfl, h⟩
 refine Zi (.bool (decide ((r1 : Int) ≥ 0))) (Za (GL.nil ?_))
 exact Y1 I3 ⟨(decide ((r1 : Int) ≥ 0)), rfl, h⟩
def Qfi (C : Ctx) (p_x : Ql) (v0 : Nat × Nat) (K : Bool → Heap → Prop) (H : Heap) : Prop :=
 nw (Ql.c p_x) (fun b1 H2 =>
 ldV H2 v0 fun x3 =>
 ldT H2 Ql.c (b1, 0) fun x5 =>
 callU Tryz.prog C x3 [.agg (Ql.c x5).toArray] H2 (fun v H8 => ∃ (r7 : Bool), v = .bool r7 ∧
 K (!r7) H8)) H
theorem Qiz (C p_x v0 K H) (h : Qfi C p_x v0 K H) : Qfx C p_x v0 K H := by
 refine Ye Tryz.func144 rfl Tryz.ntmps144 [(0, .agg (Ql.c p_x).toArray), (1, pv (some v0))] (Zo (GL.box (v := .agg (Ql.c p_x).toArray) (cs := Ql.c p_x) h trivial rfl rfl rfl ?_))
 intro b1 H2 h
 refine Za (GL.nil (Zo (Yl h fun x3 h => ?_)))
 obtain ⟨x5, hr6, h⟩ := h
 refine Zv (OV.loadT rfl rfl rfl hr6) (GL.callU (xv := x3) (vs := [.agg (Ql.c x5).toArray]) h trivial rfl rfl rfl ?_)
 rintro _ H8 ⟨r7, rfl, h⟩
 refine Zv (OV.not rfl) (Za (GL.nil ?_))
 exact Y1 I3 ⟨(!r7), rfl, h⟩
def Qlv (C : Ctx) (p_s : Str) (K : Bool → Heap → Prop) (H : Heap) : Prop :=
 Qgb C p_s [46] (fun r1 r2 r3 H4 =>
 Qbb C r1 (fun r5 H6 =>
 jn (α := Bool) (fun b7 H18 =>
 K b7 H18)
 (fun J8 => ift r5
 (jn (α := Bool) (fun b11 H17 =>
 J8 b11 H17)
 (fun J12 => ift (!r3)
 (J12 true H6)
 (Qbb C r2 (fun r15 H16 =>
 J12 r15 H16) H6)))
 (J8 false H6))) H4) H
theorem Qof (C p_s K H) (h : Qlv C p_s K H) : Qfo C p_s K H := by
 refine Ye Tryz.func145 rfl Tryz.ntmps145 [(0, sv p_s)] (Zo (Za (GL.nil (Zo (Zm (Zc h QjQ ?_))))))
 rintro _ H4 ⟨r1, r2, r3, rfl, h⟩
 refine Zm (Yv (sv r1) rfl rfl (Yv (sv r2) rfl rfl (Yv (.bool r3) rfl rfl (Za (Za (Za (GL.nil (Zo (Zm (Zc h Qbm ?_))))))))))
 rintro _ H6 ⟨r5, rfl, h⟩
 refine Zm ?_
 obtain ⟨J8, h, hR9⟩ := h
 refine GL.cut (α := Bool) 7 J8 (fun b7 => [(21, .bool b7)]) ?_ ?_
 rcases h.em with ⟨u10, h⟩ | ⟨u10, h⟩
 refine Zu u10 Ym (Zu u10 (OV.not rfl) (Zu u10 Ym ?_))
 obtain ⟨J12, h, hR13⟩ := h
 refine GL.cut (α := Bool) 3 J12 (fun b11 => [(20, .bool b11), (14, .bool r5)]) ?_ ?_
 rcases h.em with ⟨u14, h⟩ | ⟨u14, h⟩
 refine Zk u14 (Zk u14 (Zu u10 (OV.pickT rfl u14 rfl) ?_))
 exact Yj I3 true h
 refine Zu u14 Ym (GL.call h (Yt u14) rfl Qbm (vs := [sv r2]) rfl ?_)
 rintro _ H16 ⟨r15, rfl, h⟩
 refine Zu u10 (OV.pickF rfl u14 rfl) ?_
 exact Yj I3 r15 h
 intro b11 H17 h
 replace h := hR13 b11 H17 h
 refine Zt u10 ?_
 exact Yj I3 b11 h
 refine Zk u10 (Zk u10 (Zk u10 (GL.skip ⟨_, rfl, .inr rfl⟩ rfl (GL.skip ⟨_, rfl, .inr rfl⟩ rfl (Zk u10 (Zn u10 ?_))))))
 exact Yj I3 false h
 intro b7 H18 h
 replace h := hR9 b7 H18 h
 refine Za (GL.nil ?_)
 exact Y1 I3 ⟨b7, rfl, h⟩
def QfZ (C : Ctx) (p_l : Sl) (p_is : Value) (K : Bool → Heap → Prop) (H : Heap) : Prop :=
 (Value.cells p_is = #[p_is]) ∧ nw ([p_is]) (fun b1 H2 =>
 Qbj C p_l (.func (.func 197) (List.toArray []) (List.toArray [pv (some (b1, 0))]) : Value) (fun r4 H5 =>
 K (!r4) H5) H2) H
theorem Qjx (C p_l p_is K H) (h : QfZ C p_l p_is K H) : QM C p_l p_is K H := by
 refine Ye Tryz.func146 rfl Tryz.ntmps146 [(0, slv p_l), (1, p_is)] (Zo ?_)
 obtain ⟨u3, h⟩ := h
 refine GL.box (v := p_is) (cs := [p_is]) h trivial rfl rfl u3 ?_
 intro b1 H2 h
 refine Za (GL.nil (Zo (Zm (Zv (OV.makeFunc (vs := []) (us := [pv (some (b1, 0))]) rfl rfl) (Zc h Qdo ?_)))))
 rintro _ H5 ⟨r4, rfl, h⟩
 refine Zv (OV.not rfl) (Za (GL.nil ?_))
 exact Y1 I3 ⟨(!r4), rfl, h⟩
def Qkg (C : Ctx) (p_s : Str) (K : Bool → Heap → Prop) (H : Heap) : Prop :=
 K (((((p_s == ([] : Str)) || (p_s == ([99, 111, 117, 110, 116] : Str))) || (p_s == ([115, 117, 109] : Str))) || (p_s == ([109, 105, 110] : Str))) || (p_s == ([109, 97, 120] : Str))) H
theorem QmZ (C p_s K H) (h : Qkg C p_s K H) : QkG C p_s K H := by
 refine Ye Tryz.func147 rfl Tryz.ntmps147 [(0, sv p_s)] (Zo (Za (GL.nil (Zo (Zm (Zv (OV.sbin (a := p_s) (b := ([] : Str)) (v := .bool (p_s == ([] : Str))) rfl rfl rfl) (Zm (GL.cut0 3 [(8, .bool ((p_s == ([] : Str)) || (p_s == ([99, 111, 117, 110, 116] : Str)))), (0, sv p_s)] ?_ ?_))))))))
 rcases Zb (p_s == ([] : Str)) with u1 | u1
 refine Zk u1 (Zk u1 (Zt u1 ?_))
 exact GL.jump0 (fun _ _ h => h) () rfl ⟨(by rw [u1]; rfl), rfl, trivial⟩
 refine Zu u1 Ym (Zu u1 (OV.sbin (a := p_s) (b := ([99, 111, 117, 110, 116] : Str)) (v := .bool (p_s == ([99, 111, 117, 110, 116] : Str))) rfl rfl rfl) (Zn u1 ?_))
 exact GL.jump0 (fun _ _ h => h) () rfl ⟨(by rw [u1]; rfl), rfl, trivial⟩
 refine Zm (GL.cut0 3 [(12, .bool (((p_s == ([] : Str)) || (p_s == ([99, 111, 117, 110, 116] : Str))) || (p_s == ([115, 117, 109] : Str)))), (0, sv p_s)] ?_ ?_)
 rcases Zb ((p_s == ([] : Str)) || (p_s == ([99, 111, 117, 110, 116] : Str))) with u2 | u2
 refine Zk u2 (Zk u2 (Zt u2 ?_))
 exact GL.jump0 (fun _ _ h => h) () rfl ⟨(by rw [u2]; rfl), rfl, trivial⟩
 refine Zu u2 Ym (Zu u2 (OV.sbin (a := p_s) (b := ([115, 117, 109] : Str)) (v := .bool (p_s == ([115, 117, 109] : Str))) rfl rfl rfl) (Zn u2 ?_))
 exact GL.jump0 (fun _ _ h => h) () rfl ⟨(by rw [u2]; rfl), rfl, trivial⟩
 refine Zm (GL.cut0 3 [(16, .bool ((((p_s == ([] : Str)) || (p_s == ([99, 111, 117, 110, 116] : Str))) || (p_s == ([115, 117, 109] : Str))) || (p_s == ([109, 105, 110] : Str)))), (0, sv p_s)] ?_ ?_)
 rcases Zb (((p_s == ([] : Str)) || (p_s == ([99, 111, 117, 110, 116] : Str))) || (p_s == ([115, 117, 109] : Str))) with u3 | u3
 refine Zk u3 (Zk u3 (Zt u3 ?_))
 exact GL.jump0 (fun _ _ h => h) () rfl ⟨(by rw [u3]; rfl), rfl, trivial⟩
 refine Zu u3 Ym (Zu u3 (OV.sbin (a := p_s) (b := ([109, 105, 110] : Str)) (v := .bool (p_s == ([109, 105, 110] : Str))) rfl rfl rfl) (Zn u3 ?_))
 exact GL.jump0 (fun _ _ h => h) () rfl ⟨(by rw [u3]; rfl), rfl, trivial⟩
 refine Zm (GL.cut0 3 [(20, .bool (((((p_s == ([] : Str)) || (p_s == ([99, 111, 117, 110, 116] : Str))) || (p_s == ([115, 117, 109] : Str))) || (p_s == ([109, 105, 110] : Str))) || (p_s == ([109, 97, 120] : Str))))] ?_ ?_)
 rcases Zb ((((p_s == ([] : Str)) || (p_s == ([99, 111, 117, 110, 116] : Str))) || (p_s == ([115, 117, 109] : Str))) || (p_s == ([109, 105, 110] : Str))) with u4 | u4
 refine Zk u4 (Zk u4 (Zt u4 ?_))
 exact GL.jump0 (fun _ _ h => h) () rfl ⟨(by rw [u4]; rfl), trivial⟩
 refine Zu u4 Ym (Zu u4 (OV.sbin (a := p_s) (b := ([109, 97, 120] : Str)) (v := .bool (p_s == ([109, 97, 120] : Str))) rfl rfl rfl) (Zn u4 ?_))
 exact GL.jump0 (fun _ _ h => h) () rfl ⟨(by rw [u4]; rfl), trivial⟩
 refine Za (GL.nil ?_)
 exact Y1 I3 ⟨(((((p_s == ([] : Str)) || (p_s == ([99, 111, 117, 110, 116] : Str))) || (p_s == ([115, 117, 109] : Str))) || (p_s == ([109, 105, 110] : Str))) || (p_s == ([109, 97, 120] : Str))), rfl, h⟩
def Qa1 (C : Ctx) (p_s : Sl) (p_f : Value) (K : Bool → Heap → Prop) (H : Heap) : Prop :=
 Qbq C p_s p_f (fun r1 H2 =>
 K (decide ((r1 : Int) ≥ 0)) H2) H
theorem QcM (C p_s p_f K H) (h : Qa1 C p_s p_f K H) : Qa4 C p_s p_f K H := by
 refine Ye Tryz.func148 rfl Tryz.ntmps148 [(0, slv p_s), (1, p_f)] (Zo (Za (GL.nil (Zo (Zm (Zm (Zc h Qdw ?_)))))))
 rintro _ H2 ⟨r1, rfl, h⟩
 refine Zi (.bool (decide ((r1 : Int) ≥ 0))) (Za (GL.nil ?_))
 exact Y1 I3 ⟨(decide ((r1 : Int) ≥ 0)), rfl, h⟩
def Qe4 (C : Ctx) (p_x : Qi) (v0 : Nat × Nat) (K : Bool → Heap → Prop) (H : Heap) : Prop :=
 nw (Qi.c p_x) (fun b1 H2 =>
 ldV H2 v0 fun x3 =>
 ldT H2 Qi.c (b1, 0) fun x5 =>
 callU Tryz.prog C x3 [.agg (Qi.c x5).toArray] H2 (fun v H8 => ∃ (r7 : Bool), v = .bool r7 ∧
 K (!r7) H8)) H
theorem QhS (C p_x v0 K H) (h : Qe4 C p_x v0 K H) : Qfc C p_x v0 K H := by
 refine Ye Tryz.func149 rfl Tryz.ntmps149 [(0, .agg (Qi.c p_x).toArray), (1, pv (some v0))] (Zo (GL.box (v := .agg (Qi.c p_x).toArray) (cs := Qi.c p_x) h trivial rfl rfl rfl ?_))
 intro b1 H2 h
 refine Za (GL.nil (Zo (Yl h fun x3 h => ?_)))
 obtain ⟨x5, hr6, h⟩ := h
 refine Zv (OV.loadT rfl rfl rfl hr6) (GL.callU (xv := x3) (vs := [.agg (Qi.c x5).toArray]) h trivial rfl rfl rfl ?_)
 rintro _ H8 ⟨r7, rfl, h⟩
 refine Zv (OV.not rfl) (Za (GL.nil ?_))
 exact Y1 I3 ⟨(!r7), rfl, h⟩
def Qat (C : Ctx) (p_s : Sl) (p_f : Value) (K : Bool → Heap → Prop) (H : Heap) : Prop :=
 QaZ C p_s p_f (fun r1 H2 =>
 K (decide ((r1 : Int) ≥ 0)) H2) H
theorem Qca (C p_s p_f K H) (h : Qat C p_s p_f K H) : QaC C p_s p_f K H := by
 refine Ye Tryz.func150 rfl Tryz.ntmps150 [(0, slv p_s), (1, p_f)] (Zo (Za (GL.nil (Zo (Zm (Zm (Zc h QcK ?_)))))))
 rintro _ H2 ⟨r1, rfl, h⟩
 refine Zi (.bool (decide ((r1 : Int) ≥ 0))) (Za (GL.nil ?_))
 exact Y1 I3 ⟨(decide ((r1 : Int) ≥ 0)), rfl, h⟩
def Qef (C : Ctx) (p_x : Qc) (v0 : Nat × Nat) (K : Bool → Heap → Prop) (H : Heap) : Prop :=
 nw (Qc.c p_x) (fun b1 H2 =>
 ldV H2 v0 fun x3 =>
 ldT H2 Qc.c (b1, 0) fun x5 =>
 callU Tryz.prog C x3 [.agg (Qc.c x5).toArray] H2 (fun v H8 => ∃ (r7 : Bool), v = .bool r7 ∧
 K (!r7) H8)) H
theorem Qg1 (C p_x v0 K H) (h : Qef C p_x v0 K H) : Qet C p_x v0 K H := by
 refine Ye Tryz.func151 rfl Tryz.ntmps151 [(0, .agg (Qc.c p_x).toArray), (1, pv (some v0))] (Zo (GL.box (v := .agg (Qc.c p_x).toArray) (cs := Qc.c p_x) h trivial rfl rfl rfl ?_))
 intro b1 H2 h
 refine Za (GL.nil (Zo (Yl h fun x3 h => ?_)))
 obtain ⟨x5, hr6, h⟩ := h
 refine Zv (OV.loadT rfl rfl rfl hr6) (GL.callU (xv := x3) (vs := [.agg (Qc.c x5).toArray]) h trivial rfl rfl rfl ?_)
 rintro _ H8 ⟨r7, rfl, h⟩
 refine Zv (OV.not rfl) (Za (GL.nil ?_))
 exact Y1 I3 ⟨(!r7), rfl, h⟩
def Qjm (C : Ctx) (p_e : Qa) (K : Bool → Heap → Prop) (H : Heap) : Prop :=
 nw (Qa.c p_e) (fun b1 H2 =>
 ldT H2 Qa.c (b1, 0) fun x3 =>
 QcF C x3 true (fun r5 H6 =>
 K r5 H6) H2) H
theorem Ql2 (C p_e K H) (h : Qjm C p_e K H) : Qc1 C p_e K H := by
 refine Ye Tryz.func152 rfl Tryz.ntmps152 [(0, .agg (Qa.c p_e).toArray)] (Zo (GL.box (v := .agg (Qa.c p_e).toArray) (cs := Qa.c p_e) h trivial rfl rfl rfl ?_))
 intro b1 H2 h
 refine Za (GL.nil (Zo ?_))
 obtain ⟨x3, v4, h⟩ := h
 refine Zv (OV.loadT rfl rfl rfl v4) (Zc h Qi6 ?_)
 rintro _ H6 ⟨r5, rfl, h⟩
 refine Za (GL.nil ?_)
 exact Y1 I3 ⟨r5, rfl, h⟩
def Qiv (C : Ctx) (p_s : Str) (K : Bool → Heap → Prop) (H : Heap) : Prop :=
 jn (α := Bool) (fun b1 H8 =>
 jn (α := Bool) (fun b9 H16 =>
 jn (α := Bool) (fun b17 H23 =>
 K b17 H23)
 (fun J18 => ift b9
 (Qh1 C p_s (fun r21 H22 =>
 J18 r21 H22) H16)
 (J18 false H16)))
 (fun J10 => ift b1
 (ixs p_s 0 fun c13 =>
 J10 (decide (((c13.toNat : Int) : Int) ≤ 90)) H8)
 (J10 false H8)))
 (fun J2 => ift (!(p_s == ([] : Str)))
 (ixs p_s 0 fun c5 =>
 J2 (decide (((c5.toNat : Int) : Int) ≥ 65)) H)
 (J2 false H))
theorem QlJ (C p_s K H) (h : Qiv C p_s K H) : QeU C p_s K H := by
 refine Ye Tryz.func153 rfl Tryz.ntmps153 [(0, sv p_s)] (Zo (Za (GL.nil (Zo (Zm (Zv (OV.sbin (a := p_s) (b := ([] : Str)) (v := .bool (!(p_s == ([] : Str)))) rfl rfl rfl) (Zm ?_)))))))
 obtain ⟨J2, h, hR3⟩ := h
 refine GL.cut (α := Bool) 4 J2 (fun b1 => [(9, .bool b1), (0, sv p_s)]) ?_ ?_
 rcases h.em with ⟨u4, h⟩ | ⟨u4, h⟩
 refine Zu u4 Ym ?_
 obtain ⟨c5, ha6, hb7, h⟩ := h
 refine Zu u4 (OV.indexStr rfl rfl rfl ha6 hb7) (Zu u4 (OV.ibin (v := .bool (decide (((c5.toNat : Int) : Int) ≥ 65))) rfl rfl rfl) (Zt u4 ?_))
 exact Yj I3 (decide (((c5.toNat : Int) : Int) ≥ 65)) h
 refine Zk u4 (Zk u4 (Zk u4 (Zn u4 ?_)))
 exact Yj I3 false h
 intro b1 H8 h
 replace h := hR3 b1 H8 h
 refine Zm ?_
 obtain ⟨J10, h, hR11⟩ := h
 refine GL.cut (α := Bool) 4 J10 (fun b9 => [(14, .bool b9), (0, sv p_s)]) ?_ ?_
 rcases h.em with ⟨u12, h⟩ | ⟨u12, h⟩
 refine Zu u12 Ym ?_
 obtain ⟨c13, ha14, hb15, h⟩ := h
 refine Zu u12 (OV.indexStr rfl rfl rfl ha14 hb15) (Zu u12 (OV.ibin (v := .bool (decide (((c13.toNat : Int) : Int) ≤ 90))) rfl rfl rfl) (Zt u12 ?_))
 exact Yj I3 (decide (((c13.toNat : Int) : Int) ≤ 90)) h
 refine Zk u12 (Zk u12 (Zk u12 (Zn u12 ?_)))
 exact Yj I3 false h
 intro b9 H16 h
 replace h := hR11 b9 H16 h
 refine Zm ?_
 obtain ⟨J18, h, hR19⟩ := h
 refine GL.cut (α := Bool) 3 J18 (fun b17 => [(18, .bool b17)]) ?_ ?_
 rcases h.em with ⟨u20, h⟩ | ⟨u20, h⟩
 refine Zu u20 Ym (GL.call h (Yt u20) rfl Qln (vs := [sv p_s]) rfl ?_)
 rintro _ H22 ⟨r21, rfl, h⟩
 refine Zt u20 ?_
 exact Yj I3 r21 h
 refine Zk u20 (Zk u20 (Zn u20 ?_))
 exact Yj I3 false h
 intro b17 H23 h
 replace h := hR19 b17 H23 h
 refine Za (GL.nil ?_)
 exact Y1 I3 ⟨b17, rfl, h⟩
def Qiu (C : Ctx) (p_a : Qg) (p_b : Qg) (K : Bool → Heap → Prop) (H : Heap) : Prop :=
 nw (Qg.c p_a) (fun b1 H2 =>
 nw (Qg.c p_b) (fun b3 H4 =>
 ldS H4 ((b1, 0).1, (b1, 0).2 + 0) fun x5 =>
 ldS H4 ((b3, 0).1, (b3, 0).2 + 0) fun x7 =>
 jn (α := Bool) (fun b9 H19 =>
 K b9 H19)
 (fun J10 => ift (x5 == x7)
 (ldL H4 ((b1, 0).1, (b1, 0).2 + 1) fun x13 =>
 ldL H4 ((b3, 0).1, (b3, 0).2 + 1) fun x15 =>
 QB C x13 x15 (.func (.func 164) (List.toArray []) (List.toArray []) : Value) (fun r17 H18 =>
 J10 r17 H18) H4)
 (J10 false H4))) H2) H
theorem QlI (C p_a p_b K H) (h : Qiu C p_a p_b K H) : QbL C p_a p_b K H := by
 refine Ye Tryz.func164 rfl Tryz.ntmps164 [(0, .agg (Qg.c p_a).toArray), (1, .agg (Qg.c p_b).toArray)] (Zo (GL.box (v := .agg (Qg.c p_a).toArray) (cs := Qg.c p_a) h trivial rfl rfl rfl ?_))
 intro b1 H2 h
 refine GL.box (v := .agg (Qg.c p_b).toArray) (cs := Qg.c p_b) h trivial rfl rfl rfl ?_
 intro b3 H4 h
 refine Za (GL.nil (Zo (Zf (Yl h fun x5 h => ?_))))
 refine Zf (Yl h fun x7 h => ?_)
 refine Zv (OV.sbin (a := x5) (b := x7) (v := .bool (x5 == x7)) rfl rfl rfl) (Zm ?_)
 obtain ⟨J10, h, hR11⟩ := h
 refine GL.cut (α := Bool) 6 J10 (fun b9 => [(16, .bool b9)]) ?_ ?_
 rcases h.em with ⟨u12, h⟩ | ⟨u12, h⟩
 refine Zu u12 Yf ?_
 obtain ⟨x13, v14, h⟩ := h
 refine Zu u12 (Yo v14) (Zu u12 Yf ?_)
 obtain ⟨x15, v16, h⟩ := h
 refine Zu u12 (Yo v16) (GL.call h (Yt u12) rfl Qby (vs := [slv x13, slv x15, .func (.func 164) (List.toArray []) (List.toArray [])]) rfl ?_)
 rintro _ H18 ⟨r17, rfl, h⟩
 refine Zt u12 ?_
 exact Yj I3 r17 h
 refine Zk u12 (Zk u12 (Zk u12 (Zk u12 (Zk u12 (Zn u12 ?_)))))
 exact Yj I3 false h
 intro b9 H19 h
 replace h := hR11 b9 H19 h
 refine Za (GL.nil ?_)
 exact Y1 I3 ⟨b9, rfl, h⟩
def QhM (C : Ctx) (p_a : Qd) (p_b : Qd) (K : Bool → Heap → Prop) (H : Heap) : Prop :=
 nw (Qd.c p_a) (fun b1 H2 =>
 nw (Qd.c p_b) (fun b3 H4 =>
 ldI H4 .u8 ((b1, 0).1, (b1, 0).2 + 0) fun x5 =>
 ldI H4 .u8 ((b3, 0).1, (b3, 0).2 + 0) fun x7 =>
 jn (α := Bool) (fun b9 H17 =>
 jn (α := Bool) (fun b18 H26 =>
 jn (α := Bool) (fun b27 H37 =>
 K b27 H37)
 (fun J28 => ift b18
 (ldL H26 ((b1, 0).1, (b1, 0).2 + 3) fun x31 =>
 ldL H26 ((b3, 0).1, (b3, 0).2 + 3) fun x33 =>
 Qz C x31 x33 (.func (.func 165) (List.toArray []) (List.toArray []) : Value) (fun r35 H36 =>
 J28 r35 H36) H26)
 (J28 false H26)))
 (fun J19 => ift b9
 (ldS H17 ((b1, 0).1, (b1, 0).2 + 2) fun x22 =>
 ldS H17 ((b3, 0).1, (b3, 0).2 + 2) fun x24 =>
 J19 (x22 == x24) H17)
 (J19 false H17)))
 (fun J10 => ift ((x5 : Int) == x7)
 (ldI H4 .i64 ((b1, 0).1, (b1, 0).2 + 1) fun x13 =>
 ldI H4 .i64 ((b3, 0).1, (b3, 0).2 + 1) fun x15 =>
 J10 ((x13 : Int) == x15) H4)
 (J10 false H4))) H2) H
theorem Qk8 (C p_a p_b K H) (h : QhM C p_a p_b K H) : Qbv C p_a p_b K H := by
 refine Ye Tryz.func165 rfl Tryz.ntmps165 [(0, .agg (Qd.c p_a).toArray), (1, .agg (Qd.c p_b).toArray)] (Zo (GL.box (v := .agg (Qd.c p_a).toArray) (cs := Qd.c p_a) h trivial rfl rfl rfl ?_))
 intro b1 H2 h
 refine GL.box (v := .agg (Qd.c p_b).toArray) (cs := Qd.c p_b) h trivial rfl rfl rfl ?_
 intro b3 H4 h
 refine Za (GL.nil (Zo (Zf (Yl h fun x5 h => ?_))))
 refine Zf (Yl h fun x7 h => ?_)
 refine Zi (.bool ((x5 : Int) == x7)) (Zm ?_)
 obtain ⟨J10, h, hR11⟩ := h
 refine GL.cut (α := Bool) 6 J10 (fun b9 => [(16, .bool b9), (2, pv (some (b1, 0))), (3, pv (some (b3, 0)))]) ?_ ?_
 rcases h.em with ⟨u12, h⟩ | ⟨u12, h⟩
 refine Zu u12 Yf ?_
 obtain ⟨x13, v14, h⟩ := h
 refine Zu u12 (Yo v14) (Zu u12 Yf ?_)
 obtain ⟨x15, v16, h⟩ := h
 refine Zu u12 (Yo v16) (Zu u12 (OV.ibin (v := .bool ((x13 : Int) == x15)) rfl rfl rfl) (Zt u12 ?_))
 exact Yj I3 ((x13 : Int) == x15) h
 refine Zk u12 (Zk u12 (Zk u12 (Zk u12 (Zk u12 (Zn u12 ?_)))))
 exact Yj I3 false h
 intro b9 H17 h
 replace h := hR11 b9 H17 h
 refine Zm ?_
 obtain ⟨J19, h, hR20⟩ := h
 refine GL.cut (α := Bool) 6 J19 (fun b18 => [(23, .bool b18), (2, pv (some (b1, 0))), (3, pv (some (b3, 0)))]) ?_ ?_
 rcases h.em with ⟨u21, h⟩ | ⟨u21, h⟩
 refine Zu u21 Yf ?_
 obtain ⟨x22, v23, h⟩ := h
 refine Zu u21 (Yo v23) (Zu u21 Yf ?_)
 obtain ⟨x24, v25, h⟩ := h
 refine Zu u21 (Yo v25) (Zu u21 (OV.sbin (a := x22) (b := x24) (v := .bool (x22 == x24)) rfl rfl rfl) (Zt u21 ?_))
 exact Yj I3 (x22 == x24) h
 refine Zk u21 (Zk u21 (Zk u21 (Zk u21 (Zk u21 (Zn u21 ?_)))))
 exact Yj I3 false h
 intro b18 H26 h
 replace h := hR20 b18 H26 h
 refine Zm ?_
 obtain ⟨J28, h, hR29⟩ := h
 refine GL.cut (α := Bool) 6 J28 (fun b27 => [(30, .bool b27)]) ?_ ?_
 rcases h.em with ⟨u30, h⟩ | ⟨u30, h⟩
 refine Zu u30 Yf ?_
 obtain ⟨x31, v32, h⟩ := h
 refine Zu u30 (Yo v32) (Zu u30 Yf ?_)
 obtain ⟨x33, v34, h⟩ := h
 refine Zu u30 (Yo v34) (GL.call h (Yt u30) rfl Qbd (vs := [slv x31, slv x33, .func (.func 165) (List.toArray []) (List.toArray [])]) rfl ?_)
 rintro _ H36 ⟨r35, rfl, h⟩
 refine Zt u30 ?_
 exact Yj I3 r35 h
 refine Zk u30 (Zk u30 (Zk u30 (Zk u30 (Zk u30 (Zn u30 ?_)))))
 exact Yj I3 false h
 intro b27 H37 h
 replace h := hR29 b27 H37 h
 refine Za (GL.nil ?_)
 exact Y1 I3 ⟨b27, rfl, h⟩
def Qlu (C : Ctx) (p_e : Qa) (p_pattern : Bool) (K : Bool → Heap → Prop) (H : Heap) : Prop :=
 nw (Qa.c p_e) (fun b1 H2 =>
 nw ([.bool p_pattern]) (fun b3 H4 =>
 ldL H4 ((b1, 0).1, (b1, 0).2 + 8) fun x5 =>
 jn (α := Bool) (fun x8 H9 =>
 jn (α := Bool) (fun b102 H110 =>
 jn (α := Bool) (fun b111 H119 =>
 K b111 H119)
 (fun J112 => ift b102
 (ldL H110 ((b1, 0).1, (b1, 0).2 + 8) fun x115 =>
 QM C x115 (.func (.func 209) (List.toArray []) (List.toArray [pv (some (b3, 0))]) : Value) (fun r117 H118 =>
 J112 r117 H118) H110)
 (J112 false H110)))
 (fun J103 => ift x8
 (ldT H9 Qd.c ((b1, 0).1, (b1, 0).2 + 4) fun x106 =>
 Qep C x106 (fun r108 H109 =>
 J103 r108 H109) H9)
 (J103 false H9)))
 (fun J7 => ldI H4 .u8 ((b1, 0).1, (b1, 0).2 + 0) fun x11 =>
 ift ((x11 : Int) == 1)
 (ldI H4 .u8 (((b1, 0).1, (b1, 0).2 + 4).1, ((b1, 0).1, (b1, 0).2 + 4).2 + 0) fun x14 =>
 jn (α := Bool) (fun b17 H25 =>
 jn (α := Bool) (fun b27 H33 =>
 K b27 H33)
 (fun J28 => ift (b17 && (((Sl.len x5 : Int) : Int) == 0))
 (ldS H25 ((b1, 0).1, (b1, 0).2 + 3) fun x31 =>
 J28 (x31 == ([] : Str)) H25)
 (J28 false H25)))
 (fun J18 => ift ((decide ((x14 : Int) ≥ 1)) && (decide ((x14 : Int) ≤ 4)))
 (ldT H4 Qd.c ((b1, 0).1, (b1, 0).2 + 4) fun x21 =>
 QbX C x21 (fun r23 H24 =>
 J18 ((r23 : Int) == 0) H24) H4)
 (J18 false H4)))
 (ift ((x11 : Int) == 2)
 (ldS H4 ((b1, 0).1, (b1, 0).2 + 3) fun x35 =>
 QeU C x35 (fun r37 H38 =>
 J7 (r37 && (((Sl.len x5 : Int) : Int) == 0)) H38) H4)
 (ift ((x11 : Int) == 3)
 (ldB H4 (b3, 0) fun x41 =>
 jn (α := Bool) (fun b43 H49 =>
 J7 (b43 && (((Sl.len x5 : Int) : Int) == 0)) H49)
 (fun J44 => ift x41
 (ldS H4 ((b1, 0).1, (b1, 0).2 + 3) fun x47 =>
 J44 (x47 == ([] : Str)) H4)
 (J44 false H4)))
 (ift ((x11 : Int) == 4)
 (ldS H4 ((b1, 0).1, (b1, 0).2 + 3) fun x52 =>
 J7 (((x52 == ([] : Str)) && (((Sl.len x5 : Int) : Int) != 1)) && (decide (((Sl.len x5 : Int) : Int) ≤ 16))) H4)
 (ift ((x11 : Int) == 5)
 (ldS H4 ((b1, 0).1, (b1, 0).2 + 3) fun x57 =>
 Qfo C x57 (fun r59 H60 =>
 J7 (r59 && (decide (((Sl.len x5 : Int) : Int) ≤ 8))) H60) H4)
 (ift ((x11 : Int) == 6)
 (dr H4 fun Hs63 =>
 ldS Hs63 ((b1, 0).1, (b1, 0).2 + 3) fun x65 =>
 QiV C (fun r68 H69 =>
 Heap.le Hs63 H69 ∧
 lkM sv (fun x : Int => (.int .i64 x : Value)) 0 r68 x65 (fun x71 is72 =>
 Heap.le Hs63 H69 ∧
 ldB H69 (b3, 0) fun x74 =>
 J7 (((!x74) && (decide ((x71 : Int) > 0))) && ((x71 : Int) == (Sl.len x5 : Int))) H69) H69) H4)
 (ift ((x11 : Int) == 7)
 (ldB H4 (b3, 0) fun x79 =>
 jn (α := Bool) (fun b81 H89 =>
 J7 (b81 && (((Sl.len x5 : Int) : Int) == 1)) H89)
 (fun J82 => ift (!x79)
 (ldS H4 ((b1, 0).1, (b1, 0).2 + 3) fun x85 =>
 Qbb C x85 (fun r87 H88 =>
 J82 r87 H88) H4)
 (J82 false H4)))
 (ift ((x11 : Int) == 8)
 (ldB H4 (b3, 0) fun x92 =>
 jn (α := Bool) (fun b94 H100 =>
 J7 (b94 && (((Sl.len x5 : Int) : Int) == 3)) H100)
 (fun J95 => ift (!x92)
 (ldS H4 ((b1, 0).1, (b1, 0).2 + 3) fun x98 =>
 J95 (x98 == ([] : Str)) H4)
 (J95 false H4)))
 (J7 false H4)))))))))) H2) H
theorem Qoe (C p_e p_pattern K H) (h : Qlu C p_e p_pattern K H) : QcF C p_e p_pattern K H := by
 refine Ye Tryz.func168 rfl Tryz.ntmps168 [(0, .agg (Qa.c p_e).toArray), (1, .bool p_pattern)] (Zo (GL.box (v := .agg (Qa.c p_e).toArray) (cs := Qa.c p_e) h trivial rfl rfl rfl ?_))
 intro b1 H2 h
 refine GL.box (v := .bool p_pattern) (cs := [.bool p_pattern]) h trivial rfl rfl rfl ?_
 intro b3 H4 h
 refine Za (GL.nil (Zo (Zf (Yl h fun x5 h => ?_))))
 refine Zq (Za (GL.nil (Zo (Za (GL.nil ?_)))))
 obtain ⟨J7, h, hR10⟩ := h
 refine GC.join (α := Bool) J7 (fun x8 => [(6, .bool x8), (2, pv (some (b1, 0))), (3, pv (some (b3, 0)))]) ?_ ?_
 refine Zo (Zf (Yl h fun x11 h => ?_))
 refine GL.nil (GC.block (Zo (Zi (.bool ((x11 : Int) == 1)) (Za (GL.nil (Yd h (fun u13 h => ?_) fun u13 h => ?_))))))
 refine Zo (Zf (Zf (Yl h fun x14 h => ?_)))
 refine Za (GL.nil (Zo (Zm (Zi (.bool (decide ((x14 : Int) ≥ 1))) (Zm (GL.cut0 3 [(24, .bool ((decide ((x14 : Int) ≥ 1)) && (decide ((x14 : Int) ≤ 4)))), (2, pv (some (b1, 0))), (5, .int .i64 (Sl.len x5 : Int))] ?_ ?_))))))
 rcases Zb (decide ((x14 : Int) ≥ 1)) with u16 | u16
 refine Zu u16 Ym (Zu u16 (OV.ibin (v := .bool (decide ((x14 : Int) ≤ 4))) rfl rfl rfl) (Zt u16 ?_))
 exact GL.jump0 (fun _ _ h => h) () rfl ⟨(by rw [u16]; rfl), rfl, rfl, trivial⟩
 refine Zk u16 (Zk u16 (Zn u16 ?_))
 exact GL.jump0 (fun _ _ h => h) () rfl ⟨(by rw [u16]; rfl), rfl, rfl, trivial⟩
 refine Zm ?_
 obtain ⟨J18, h, hR19⟩ := h
 refine GL.cut (α := Bool) 5 J18 (fun b17 => [(30, .bool b17), (2, pv (some (b1, 0))), (5, .int .i64 (Sl.len x5 : Int))]) ?_ ?_
 rcases h.em with ⟨u20, h⟩ | ⟨u20, h⟩
 refine Zu u20 Yf ?_
 obtain ⟨x21, v22, h⟩ := h
 refine Zu u20 (OV.loadT rfl rfl rfl v22) (GL.call h (Yt u20) rfl QjT (vs := [.agg (Qd.c x21).toArray]) rfl ?_)
 rintro _ H24 ⟨r23, rfl, h⟩
 refine Zu u20 (OV.ibin (v := .bool ((r23 : Int) == 0)) rfl rfl rfl) (Zt u20 ?_)
 exact Yj I3 ((r23 : Int) == 0) h
 refine Zk u20 (Zk u20 (Zk u20 (Zk u20 (Zn u20 ?_))))
 exact Yj I3 false h
 intro b17 H25 h
 replace h := hR19 b17 H25 h
 refine Zm (GL.cut0 3 [(34, .bool (b17 && (((Sl.len x5 : Int) : Int) == 0))), (2, pv (some (b1, 0)))] ?_ ?_)
 rcases Bool.eq_false_or_eq_true b17 with u26 | u26
 refine Zu u26 Ym (Zu u26 (OV.ibin (v := .bool (((Sl.len x5 : Int) : Int) == 0)) rfl rfl rfl) (Zt u26 ?_))
 exact GL.jump0 (fun _ _ h => h) () rfl ⟨(by rw [u26]; rfl), rfl, trivial⟩
 refine Zk u26 (Zk u26 (Zn u26 ?_))
 exact GL.jump0 (fun _ _ h => h) () rfl ⟨(by rw [u26]; rfl), rfl, trivial⟩
 refine Zm ?_
 obtain ⟨J28, h, hR29⟩ := h
 refine GL.cut (α := Bool) 4 J28 (fun b27 => [(39, .bool b27)]) ?_ ?_
 rcases h.em with ⟨u30, h⟩ | ⟨u30, h⟩
 refine Zu u30 Yf ?_
 obtain ⟨x31, v32, h⟩ := h
 refine Zu u30 (Yo v32) (Zu u30 (OV.sbin (a := x31) (b := ([] : Str)) (v := .bool (x31 == ([] : Str))) rfl rfl rfl) (Zt u30 ?_))
 exact Yj I3 (x31 == ([] : Str)) h
 refine Zk u30 (Zk u30 (Zk u30 (Zn u30 ?_)))
 exact Yj I3 false h
 intro b27 H33 h
 replace h := hR29 b27 H33 h
 refine Za (GL.nil ?_)
 exact Y1 I3 ⟨b27, rfl, h⟩
 refine Zo (Zi (.bool ((x11 : Int) == 2)) (Za (GL.nil (Yd h (fun u34 h => ?_) fun u34 h => ?_))))
 refine GC.region (Zf (Yl h fun x35 h => ?_))
 refine Zc h Qin ?_
 rintro _ H38 ⟨r37, rfl, h⟩
 refine Zm (GL.cut0 3 [(48, .bool (r37 && (((Sl.len x5 : Int) : Int) == 0))), (2, pv (some (b1, 0))), (3, pv (some (b3, 0)))] ?_ ?_)
 rcases Bool.eq_false_or_eq_true r37 with u39 | u39
 refine Zu u39 Ym (Zu u39 (OV.ibin (v := .bool (((Sl.len x5 : Int) : Int) == 0)) rfl rfl rfl) (Zt u39 ?_))
 exact GL.jump0 (fun _ _ h => h) () rfl ⟨(by rw [u39]; rfl), rfl, rfl, trivial⟩
 refine Zk u39 (Zk u39 (Zn u39 ?_))
 exact GL.jump0 (fun _ _ h => h) () rfl ⟨(by rw [u39]; rfl), rfl, rfl, trivial⟩
 refine Za ?_
 exact Yj I3 (r37 && (((Sl.len x5 : Int) : Int) == 0)) h
 refine Zo (Zi (.bool ((x11 : Int) == 3)) (Za (GL.nil (Yd h (fun u40 h => ?_) fun u40 h => ?_))))
 refine GC.region (Yl h fun x41 h => ?_)
 refine Zm ?_
 obtain ⟨J44, h, hR45⟩ := h
 refine GL.cut (α := Bool) 4 J44 (fun b43 => [(56, .bool b43), (2, pv (some (b1, 0))), (3, pv (some (b3, 0))), (5, .int .i64 (Sl.len x5 : Int))]) ?_ ?_
 rcases h.em with ⟨u46, h⟩ | ⟨u46, h⟩
 refine Zu u46 Yf ?_
 obtain ⟨x47, v48, h⟩ := h
 refine Zu u46 (Yo v48) (Zu u46 (OV.sbin (a := x47) (b := ([] : Str)) (v := .bool (x47 == ([] : Str))) rfl rfl rfl) (Zt u46 ?_))
 exact Yj I3 (x47 == ([] : Str)) h
 refine Zk u46 (Zk u46 (Zk u46 (Zn u46 ?_)))
 exact Yj I3 false h
 intro b43 H49 h
 replace h := hR45 b43 H49 h
 refine Zm (GL.cut0 3 [(60, .bool (b43 && (((Sl.len x5 : Int) : Int) == 0))), (2, pv (some (b1, 0))), (3, pv (some (b3, 0)))] ?_ ?_)
 rcases Bool.eq_false_or_eq_true b43 with u50 | u50
 refine Zu u50 Ym (Zu u50 (OV.ibin (v := .bool (((Sl.len x5 : Int) : Int) == 0)) rfl rfl rfl) (Zt u50 ?_))
 exact GL.jump0 (fun _ _ h => h) () rfl ⟨(by rw [u50]; rfl), rfl, rfl, trivial⟩
 refine Zk u50 (Zk u50 (Zn u50 ?_))
 exact GL.jump0 (fun _ _ h => h) () rfl ⟨(by rw [u50]; rfl), rfl, rfl, trivial⟩
 refine Za ?_
 exact Yj I3 (b43 && (((Sl.len x5 : Int) : Int) == 0)) h
 refine Zo (Zi (.bool ((x11 : Int) == 4)) (Za (GL.nil (Yd h (fun u51 h => ?_) fun u51 h => ?_))))
 refine GC.region (Zf (Yl h fun x52 h => ?_))
 refine Zv (OV.sbin (a := x52) (b := ([] : Str)) (v := .bool (x52 == ([] : Str))) rfl rfl rfl) (Zm (GL.cut0 3 [(69, .bool ((x52 == ([] : Str)) && (((Sl.len x5 : Int) : Int) != 1))), (2, pv (some (b1, 0))), (3, pv (some (b3, 0))), (5, .int .i64 (Sl.len x5 : Int))] ?_ ?_))
 rcases Zb (x52 == ([] : Str)) with u54 | u54
 refine Zu u54 Ym (Zu u54 (OV.ibin (v := .bool (((Sl.len x5 : Int) : Int) != 1)) rfl rfl rfl) (Zt u54 ?_))
 exact GL.jump0 (fun _ _ h => h) () rfl ⟨(by rw [u54]; rfl), rfl, rfl, rfl, trivial⟩
 refine Zk u54 (Zk u54 (Zn u54 ?_))
 exact GL.jump0 (fun _ _ h => h) () rfl ⟨(by rw [u54]; rfl), rfl, rfl, rfl, trivial⟩
 refine Zm (GL.cut0 3 [(73, .bool (((x52 == ([] : Str)) && (((Sl.len x5 : Int) : Int) != 1)) && (decide (((Sl.len x5 : Int) : Int) ≤ 16)))), (2, pv (some (b1, 0))), (3, pv (some (b3, 0)))] ?_ ?_)
 rcases Zb ((x52 == ([] : Str)) && (((Sl.len x5 : Int) : Int) != 1)) with u55 | u55
 refine Zu u55 Ym (Zu u55 (OV.ibin (v := .bool (decide (((Sl.len x5 : Int) : Int) ≤ 16))) rfl rfl rfl) (Zt u55 ?_))
 exact GL.jump0 (fun _ _ h => h) () rfl ⟨(by rw [u55]; rfl), rfl, rfl, trivial⟩
 refine Zk u55 (Zk u55 (Zn u55 ?_))
 exact GL.jump0 (fun _ _ h => h) () rfl ⟨(by rw [u55]; rfl), rfl, rfl, trivial⟩
 refine Za ?_
 exact Yj I3 (((x52 == ([] : Str)) && (((Sl.len x5 : Int) : Int) != 1)) && (decide (((Sl.len x5 : Int) : Int) ≤ 16))) h
 refine Zo (Zi (.bool ((x11 : Int) == 5)) (Za (GL.nil (Yd h (fun u56 h => ?_) fun u56 h => ?_))))
 refine GC.region (Zf (Yl h fun x57 h => ?_))
 refine Zc h QgN ?_
 rintro _ H60 ⟨r59, rfl, h⟩
 refine Zm (GL.cut0 3 [(82, .bool (r59 && (decide (((Sl.len x5 : Int) : Int) ≤ 8)))), (2, pv (some (b1, 0))), (3, pv (some (b3, 0)))] ?_ ?_)
 rcases Bool.eq_false_or_eq_true r59 with u61 | u61
 refine Zu u61 Ym (Zu u61 (OV.ibin (v := .bool (decide (((Sl.len x5 : Int) : Int) ≤ 8))) rfl rfl rfl) (Zt u61 ?_))
 exact GL.jump0 (fun _ _ h => h) () rfl ⟨(by rw [u61]; rfl), rfl, rfl, trivial⟩
 refine Zk u61 (Zk u61 (Zn u61 ?_))
 exact GL.jump0 (fun _ _ h => h) () rfl ⟨(by rw [u61]; rfl), rfl, rfl, trivial⟩
 refine Za ?_
 exact Yj I3 (r59 && (decide (((Sl.len x5 : Int) : Int) ≤ 8))) h
 refine Zo (Zi (.bool ((x11 : Int) == 6)) (Za (GL.nil (Yd h (fun u62 h => ?_) fun u62 h => ?_))))
 refine GC.seq ?_
 obtain ⟨Hs63, hle64, h⟩ := h
 refine GC.any (Hs := Hs63) (by kernel_rfl) hle64 (Zp 1 rfl Yf ?_)
 obtain ⟨x65, v66, h⟩ := h
 refine Zp 2 rfl (Yo v66) (GA.eff 0 rfl (by kernel_rfl) (Zc h QnZ ?_))
 rintro _ H69 ⟨r68, rfl, h⟩
 obtain ⟨hle67, h⟩ := h
 refine GA.back hle67 (GA.eff 3 rfl (by kernel_rfl) ?_)
 obtain ⟨x71, is72, v73, h⟩ := h
 refine Zv (OV.lookup1 (v := .int .i64 x71) (ke := sv) (enc := (fun x : Int => (.int .i64 x : Value))) (z := 0) (q := r68) (k := x65) (x := x71) (b := is72) rfl v73 rfl rfl rfl (kText rfl) rfl) ?_
 obtain ⟨hle70, h⟩ := h
 refine GA.back hle70 (Zp 4 rfl Ya (GA.done (by kernel_rfl) (GL.nil (GC.region (Yl h fun x74 h => ?_)))))
 refine Zv (OV.not rfl) (Zm (GL.cut0 3 [(94, .bool ((!x74) && (decide ((x71 : Int) > 0)))), (2, pv (some (b1, 0))), (3, pv (some (b3, 0))), (5, .int .i64 (Sl.len x5 : Int)), (8, .int .i64 x71)] ?_ ?_))
 rcases Zb (!x74) with u76 | u76
 refine Zu u76 Ym (Zu u76 (OV.ibin (v := .bool (decide ((x71 : Int) > 0))) rfl rfl rfl) (Zt u76 ?_))
 exact GL.jump0 (fun _ _ h => h) () rfl ⟨(by rw [u76]; rfl), rfl, rfl, rfl, rfl, trivial⟩
 refine Zk u76 (Zk u76 (Zn u76 ?_))
 exact GL.jump0 (fun _ _ h => h) () rfl ⟨(by rw [u76]; rfl), rfl, rfl, rfl, rfl, trivial⟩
 refine Zm (GL.cut0 4 [(99, .bool (((!x74) && (decide ((x71 : Int) > 0))) && ((x71 : Int) == (Sl.len x5 : Int)))), (2, pv (some (b1, 0))), (3, pv (some (b3, 0)))] ?_ ?_)
 rcases Zb ((!x74) && (decide ((x71 : Int) > 0))) with u77 | u77
 refine Zu u77 Ym (Zu u77 Ym (Zu u77 (OV.ibin (v := .bool ((x71 : Int) == (Sl.len x5 : Int))) rfl rfl rfl) (Zt u77 ?_)))
 exact GL.jump0 (fun _ _ h => h) () rfl ⟨(by rw [u77]; rfl), rfl, rfl, trivial⟩
 refine Zk u77 (Zk u77 (Zk u77 (Zn u77 ?_)))
 exact GL.jump0 (fun _ _ h => h) () rfl ⟨(by rw [u77]; rfl), rfl, rfl, trivial⟩
 refine Za ?_
 exact Yj I3 (((!x74) && (decide ((x71 : Int) > 0))) && ((x71 : Int) == (Sl.len x5 : Int))) h
 refine Zo (Zi (.bool ((x11 : Int) == 7)) (Za (GL.nil (Yd h (fun u78 h => ?_) fun u78 h => ?_))))
 refine GC.region (Yl h fun x79 h => ?_)
 refine Zv (OV.not rfl) (Zm ?_)
 obtain ⟨J82, h, hR83⟩ := h
 refine GL.cut (α := Bool) 4 J82 (fun b81 => [(108, .bool b81), (2, pv (some (b1, 0))), (3, pv (some (b3, 0))), (5, .int .i64 (Sl.len x5 : Int))]) ?_ ?_
 rcases h.em with ⟨u84, h⟩ | ⟨u84, h⟩
 refine Zu u84 Yf ?_
 obtain ⟨x85, v86, h⟩ := h
 refine Zu u84 (Yo v86) (GL.call h (Yt u84) rfl Qbm (vs := [sv x85]) rfl ?_)
 rintro _ H88 ⟨r87, rfl, h⟩
 refine Zt u84 ?_
 exact Yj I3 r87 h
 refine Zk u84 (Zk u84 (Zk u84 (Zn u84 ?_)))
 exact Yj I3 false h
 intro b81 H89 h
 replace h := hR83 b81 H89 h
 refine Zm (GL.cut0 3 [(112, .bool (b81 && (((Sl.len x5 : Int) : Int) == 1))), (2, pv (some (b1, 0))), (3, pv (some (b3, 0)))] ?_ ?_)
 rcases Bool.eq_false_or_eq_true b81 with u90 | u90
 refine Zu u90 Ym (Zu u90 (OV.ibin (v := .bool (((Sl.len x5 : Int) : Int) == 1)) rfl rfl rfl) (Zt u90 ?_))
 exact GL.jump0 (fun _ _ h => h) () rfl ⟨(by rw [u90]; rfl), rfl, rfl, trivial⟩
 refine Zk u90 (Zk u90 (Zn u90 ?_))
 exact GL.jump0 (fun _ _ h => h) () rfl ⟨(by rw [u90]; rfl), rfl, rfl, trivial⟩
 refine Za ?_
 exact Yj I3 (b81 && (((Sl.len x5 : Int) : Int) == 1)) h
 refine Zo (Zi (.bool ((x11 : Int) == 8)) (Za (GL.nil (Yd h (fun u91 h => ?_) fun u91 h => ?_))))
 refine GC.region (Yl h fun x92 h => ?_)
 refine Zv (OV.not rfl) (Zm ?_)
 obtain ⟨J95, h, hR96⟩ := h
 refine GL.cut (α := Bool) 4 J95 (fun b94 => [(121, .bool b94), (2, pv (some (b1, 0))), (3, pv (some (b3, 0))), (5, .int .i64 (Sl.len x5 : Int))]) ?_ ?_
 rcases h.em with ⟨u97, h⟩ | ⟨u97, h⟩
 refine Zu u97 Yf ?_
 obtain ⟨x98, v99, h⟩ := h
 refine Zu u97 (Yo v99) (Zu u97 (OV.sbin (a := x98) (b := ([] : Str)) (v := .bool (x98 == ([] : Str))) rfl rfl rfl) (Zt u97 ?_))
 exact Yj I3 (x98 == ([] : Str)) h
 refine Zk u97 (Zk u97 (Zk u97 (Zn u97 ?_)))
 exact Yj I3 false h
 intro b94 H100 h
 replace h := hR96 b94 H100 h
 refine Zm (GL.cut0 3 [(125, .bool (b94 && (((Sl.len x5 : Int) : Int) == 3))), (2, pv (some (b1, 0))), (3, pv (some (b3, 0)))] ?_ ?_)
 rcases Bool.eq_false_or_eq_true b94 with u101 | u101
 refine Zu u101 Ym (Zu u101 (OV.ibin (v := .bool (((Sl.len x5 : Int) : Int) == 3)) rfl rfl rfl) (Zt u101 ?_))
 exact GL.jump0 (fun _ _ h => h) () rfl ⟨(by rw [u101]; rfl), rfl, rfl, trivial⟩
 refine Zk u101 (Zk u101 (Zn u101 ?_))
 exact GL.jump0 (fun _ _ h => h) () rfl ⟨(by rw [u101]; rfl), rfl, rfl, trivial⟩
 refine Za ?_
 exact Yj I3 (b94 && (((Sl.len x5 : Int) : Int) == 3)) h
 exact Yk I3 false h
 intro x8 H9 h
 replace h := hR10 x8 H9 h
 refine Zo (Zm (Zm ?_))
 obtain ⟨J103, h, hR104⟩ := h
 refine GL.cut (α := Bool) 4 J103 (fun b102 => [(131, .bool b102), (2, pv (some (b1, 0))), (3, pv (some (b3, 0)))]) ?_ ?_
 rcases h.em with ⟨u105, h⟩ | ⟨u105, h⟩
 refine Zu u105 Yf ?_
 obtain ⟨x106, v107, h⟩ := h
 refine Zu u105 (OV.loadT rfl rfl rfl v107) (GL.call h (Yt u105) rfl QoG (vs := [.agg (Qd.c x106).toArray]) rfl ?_)
 rintro _ H109 ⟨r108, rfl, h⟩
 refine Zt u105 ?_
 exact Yj I3 r108 h
 refine Zk u105 (Zk u105 (Zk u105 (Zn u105 ?_)))
 exact Yj I3 false h
 intro b102 H110 h
 replace h := hR104 b102 H110 h
 refine Zm ?_
 obtain ⟨J112, h, hR113⟩ := h
 refine GL.cut (α := Bool) 5 J112 (fun b111 => [(137, .bool b111)]) ?_ ?_
 rcases h.em with ⟨u114, h⟩ | ⟨u114, h⟩
 refine Zu u114 Yf ?_
 obtain ⟨x115, v116, h⟩ := h
 refine Zu u114 (Yo v116) (Zu u114 (OV.makeFunc (vs := []) (us := [pv (some (b3, 0))]) rfl rfl) (GL.call h (Yt u114) rfl Qd4 (vs := [slv x115, .func (.func 209) (List.toArray []) (List.toArray [pv (some (b3, 0))])]) rfl ?_))
 rintro _ H118 ⟨r117, rfl, h⟩
 refine Zt u114 ?_
 exact Yj I3 r117 h
 refine Zk u114 (Zk u114 (Zk u114 (Zk u114 (Zn u114 ?_))))
 exact Yj I3 false h
 intro b111 H119 h
 replace h := hR113 b111 H119 h
 refine Za (GL.nil ?_)
 exact Y1 I3 ⟨b111, rfl, h⟩
def Qk2 (C : Ctx) (p_v : Qd) (K : Str → Heap → Prop) (H : Heap) : Prop :=
 nw (Qd.c p_v) (fun b1 H2 =>
 ldT H2 Qd.c (b1, 0) fun x3 =>
 QbX C x3 (fun r5 H6 =>
 ift ((r5 : Int) != 0)
 (K [] H6)
 (nwB 85 5 (fun b8 H9 =>
 nw ([.nilFunc]) (fun b10 H11 =>
 nw ([.nilFunc]) (fun b12 H13 =>
 st (b12, 0) (.func (.func 210) (List.toArray []) (List.toArray [pv (some (b8, 0)), pv (some (b10, 0))])) (fun H14 =>
 st (b10, 0) (.func (.func 211) (List.toArray []) (List.toArray [pv (some (b8, 0)), pv (some (b12, 0))])) (fun H15 =>
 ldV H15 (b10, 0) fun x16 =>
 ldT H15 Qd.c (b1, 0) fun x18 =>
 callU Tryz.prog C x16 [.agg (Qd.c x18).toArray] H15 (fun v H20 => v = .tuple #[] ∧
 QS C (some (b8, 0)) (fun r21 H22 =>
 K r21 H22) H20)) H14) H13) H11) H9) H6)) H2) H
theorem QnE (C p_v K H) (h : Qk2 C p_v K H) : QiX C p_v K H := by
 refine Ye Tryz.func169 rfl Tryz.ntmps169 [(0, .agg (Qd.c p_v).toArray)] (Zo (GL.box (v := .agg (Qd.c p_v).toArray) (cs := Qd.c p_v) h trivial rfl rfl rfl ?_))
 intro b1 H2 h
 refine Za (GL.nil (GC.seq (Zo ?_)))
 obtain ⟨x3, v4, h⟩ := h
 refine Zv (OV.loadT rfl rfl rfl v4) (Zc h QjT ?_)
 rintro _ H6 ⟨r5, rfl, h⟩
 refine Zi (.bool ((r5 : Int) != 0)) (GL.nil (Yd h (fun u7 h => ?_) fun u7 h => ?_))
 refine Zo (Za (GL.nil ?_))
 exact Y1 I3 ⟨[], rfl, h⟩
 refine GC.skip (Zo (GL.allocB (T := 85) (e := 5) h trivial rfl rfl rfl ?_))
 intro b8 H9 h
 refine GL.nil (Zo (GL.alloc (cs := [.nilFunc]) h trivial rfl rfl rfl ?_))
 intro b10 H11 h
 refine GL.nil (Zo (Zv (OV.makeFunc (vs := []) (us := [pv (some (b8, 0)), pv (some (b10, 0))]) rfl rfl) (GL.alloc (cs := [.nilFunc]) h trivial rfl rfl rfl ?_)))
 intro b12 H13 h
 refine GL.store (p := (b12, 0)) (v := .func (.func 210) (List.toArray []) (List.toArray [pv (some (b8, 0)), pv (some (b10, 0))])) h trivial rfl rfl rfl rfl ?_
 intro H14 h
 refine GL.nil (Zo (Zv (OV.makeFunc (vs := []) (us := [pv (some (b8, 0)), pv (some (b12, 0))]) rfl rfl) (GL.store (p := (b10, 0)) (v := .func (.func 211) (List.toArray []) (List.toArray [pv (some (b8, 0)), pv (some (b12, 0))])) h trivial rfl rfl rfl rfl ?_)))
 intro H15 h
 refine GL.nil (Zo (Yl h fun x16 h => ?_))
 obtain ⟨x18, v19, h⟩ := h
 refine Zv (OV.loadT rfl rfl rfl v19) (GL.callU (xv := x16) (vs := [.agg (Qd.c x18).toArray]) h trivial rfl rfl rfl ?_)
 rintro _ H20 ⟨rfl, h⟩
 refine GL.nil (Zo (Zc h Qeb ?_))
 rintro _ H22 ⟨r21, rfl, h⟩
 refine Za (GL.nil ?_)
 exact Y1 I3 ⟨r21, rfl, h⟩
def Qgx (C : Ctx) (p_w : Option (Nat × Nat)) (p_e : Qa) (K : Heap → Prop) (H : Heap) : Prop :=
 nw (Qa.c p_e) (fun b1 H2 =>
 ldS H2 ((b1, 0).1, (b1, 0).2 + 3) fun x3 =>
 QeT C x3 (fun r5 H6 =>
 ift r5
 (dr H6 fun Hs8 =>
 nck p_w fun p10 =>
 ldS Hs8 ((b1, 0).1, (b1, 0).2 + 3) fun x12 =>
 Qm C (some (p10.1, p10.2 + 0)) x12 (fun r15 r16 H17 =>
 Heap.le Hs8 H17 ∧
 ldL H17 ((b1, 0).1, (b1, 0).2 + 8) fun x18 =>
 QF C p_w x18 (.func (.func 93) (List.toArray [pv p_w]) (List.toArray []) : Value) (fun H20 =>
 K H20) H17) H6)
 (ldL H6 ((b1, 0).1, (b1, 0).2 + 8) fun x21 =>
 ift (((Sl.len x21 : Int) : Int) == 1)
 (ldS H6 ((b1, 0).1, (b1, 0).2 + 3) fun x24 =>
 nw ([sv [40], sv x24, sv [32]]) (fun b26 H27 =>
 QH C p_w (Sl.of (some (b26, 0)) 3 3) (fun H28 =>
 ldL H28 ((b1, 0).1, (b1, 0).2 + 8) fun x29 =>
 ixa x29 0 fun p31 =>
 ldT H28 Qa.c (p31.1, p31.2 + (0 : Int).toNat * 9) fun x36 =>
 Qag C p_w x36 (fun H38 =>
 nck p_w fun p39 =>
 Qo C (some (p39.1, p39.2 + 0)) 41 (fun r41 H42 =>
 K H42) H38) H28) H27) H6)
 (nck p_w fun p43 =>
 Qo C (some (p43.1, p43.2 + 0)) 40 (fun r45 H46 =>
 ldL H46 ((b1, 0).1, (b1, 0).2 + 8) fun x47 =>
 ldS H46 ((b1, 0).1, (b1, 0).2 + 3) fun x49 =>
 catOk ([32] : Str) x49 ∧
 catOk (([32] : Str) ++ x49) ([32] : Str) ∧
 QaX C p_w x47 ((([32] : Str) ++ x49) ++ ([32] : Str)) (.func (.func 93) (List.toArray [pv p_w]) (List.toArray []) : Value) (fun H53 =>
 nck p_w fun p54 =>
 Qo C (some (p54.1, p54.2 + 0)) 41 (fun r56 H57 =>
 K H57) H53) H46) H6))) H2) H
theorem Qko (C p_w p_e K H) (h : Qgx C p_w p_e K H) : QeV C p_w p_e K H := by
 refine Ye Tryz.func170 rfl Tryz.ntmps170 [(0, pv p_w), (1, .agg (Qa.c p_e).toArray)] (Zo (GL.box (v := .agg (Qa.c p_e).toArray) (cs := Qa.c p_e) h trivial rfl rfl rfl ?_))
 intro b1 H2 h
 refine GL.nil (GC.block (Zo (Zf (Yl h fun x3 h => ?_))))
 refine Zc h Qil ?_
 rintro _ H6 ⟨r5, rfl, h⟩
 refine Za (GL.nil (Yd h (fun u7 h => ?_) fun u7 h => ?_))
 refine GC.seq ?_
 obtain ⟨Hs8, hle9, h⟩ := h
 refine GC.any (Hs := Hs8) (by kernel_rfl) hle9 (Zp 0 rfl Ym ?_)
 obtain ⟨p10, hp11, h⟩ := h
 refine Zp 1 rfl (OV.nilCheck (q := p_w) rfl hp11) (Zp 2 rfl Yf (Zp 3 rfl Yf ?_))
 obtain ⟨x12, v13, h⟩ := h
 refine Zp 4 rfl (Yo v13) (GA.eff 5 rfl (by kernel_rfl) (Zc h Qn ?_))
 rintro _ H17 ⟨r15, r16, rfl, h⟩
 obtain ⟨hle14, h⟩ := h
 refine GA.back hle14 (GA.done (by kernel_rfl) (GL.nil (GC.region (Zm (Zf (Yl h fun x18 h => ?_))))))
 refine Zm (Zv (OV.makeFunc (vs := [pv p_w]) (us := []) rfl rfl) (Zc h QZ ?_))
 rintro _ H20 ⟨rfl, h⟩
 exact GL.ends (fun _ _ hf hs => QC rfl hf hs ⟨rfl, h⟩)
 refine Zo (Zf (Yl h fun x21 h => ?_))
 refine Zq (Zi (.bool (((Sl.len x21 : Int) : Int) == 1)) (Za (GL.nil (Yd h (fun u23 h => ?_) fun u23 h => ?_))))
 refine Zo (Zm (Zf (Yl h fun x24 h => ?_)))
 refine GL.buildSlice (cs := [sv [40], sv x24, sv [32]]) h trivial rfl (vs := [(0, sv [40]), (1, sv x24), (2, sv [32])]) rfl ⟨9, fun _ => by kernel_rfl⟩ ?_
 intro b26 H27 h
 refine Zc h QT ?_
 rintro _ H28 ⟨rfl, h⟩
 refine GL.nil (Zo (Zm (Zf (Yl h fun x29 h => ?_))))
 refine Yx h fun p31 h => ?_
 obtain ⟨x36, v37, h⟩ := h
 refine Zv (OV.loadT rfl rfl rfl v37) (Zc h Q7 ?_)
 rintro _ H38 ⟨rfl, h⟩
 refine GL.nil (GC.region (Zm ?_))
 obtain ⟨p39, hp40, h⟩ := h
 refine Zv (OV.nilCheck (q := p_w) rfl hp40) (Zf (Zc h Qq ?_))
 rintro _ H42 ⟨r41, rfl, h⟩
 exact GL.ends (fun _ _ hf hs => QC rfl hf hs ⟨rfl, h⟩)
 refine Zo (Zm ?_)
 obtain ⟨p43, hp44, h⟩ := h
 refine Zv (OV.nilCheck (q := p_w) rfl hp44) (Zf (Zc h Qq ?_))
 rintro _ H46 ⟨r45, rfl, h⟩
 refine GL.nil (Zo (Zm (Zf (Yl h fun x47 h => ?_))))
 refine Zf (Yl h fun x49 h => ?_)
 obtain ⟨hl51, h⟩ := h
 refine Zv (OV.cat (a := ([32] : Str)) (b := x49) rfl rfl hl51) ?_
 obtain ⟨hl52, h⟩ := h
 refine Zv (OV.cat (a := (([32] : Str) ++ x49)) (b := ([32] : Str)) rfl rfl hl52) (Zm (Zv (OV.makeFunc (vs := [pv p_w]) (us := []) rfl rfl) (Zc h QfD ?_)))
 rintro _ H53 ⟨rfl, h⟩
 refine GL.nil (GC.region (Zm ?_))
 obtain ⟨p54, hp55, h⟩ := h
 refine Zv (OV.nilCheck (q := p_w) rfl hp55) (Zf (Zc h Qq ?_))
 rintro _ H57 ⟨r56, rfl, h⟩
 exact GL.ends (fun _ _ hf hs => QC rfl hf hs ⟨rfl, h⟩)
def Qf4 (C : Ctx) (p_w : Option (Nat × Nat)) (p_e : Qa) (K : Heap → Prop) (H : Heap) : Prop :=
 nw (Qa.c p_e) (fun b1 H2 =>
 ldL H2 ((b1, 0).1, (b1, 0).2 + 8) fun x3 =>
 ixa x3 0 fun p5 =>
 ldT H2 Qa.c (p5.1, p5.2 + (0 : Int).toNat * 9) fun x10 =>
 nw (Qa.c Qa.zero) (fun b12 H13 =>
 stT (b12, 0) (Qa.c x10) (fun H14 =>
 jn (α := Unit) (fun x16 H17 =>
 ldS H17 ((b1, 0).1, (b1, 0).2 + 3) fun x51 =>
 nw ([sv [46], sv x51]) (fun b53 H54 =>
 QH C p_w (Sl.of (some (b53, 0)) 2 2) (fun H55 =>
 K H55) H54) H17)
 (fun J15 => ldI H14 .u8 ((b12, 0).1, (b12, 0).2 + 0) fun x19 =>
 jn (α := Bool) (fun b21 H27 =>
 jn (α := Bool) (fun b28 H43 =>
 ift b28
 (ldL H43 ((b1, 0).1, (b1, 0).2 + 8) fun x45 =>
 QF C p_w x45 (.func (.func 93) (List.toArray [pv p_w]) (List.toArray []) : Value) (fun H47 =>
 J15 () H47) H43)
 (ldT H43 Qa.c (b12, 0) fun x48 =>
 Qag C p_w x48 (fun H50 =>
 J15 () H50) H43))
 (fun J29 => ift b21
 (J29 true H27)
 (ldI H27 .u8 ((b12, 0).1, (b12, 0).2 + 0) fun x32 =>
 jn (α := Bool) (fun b34 H42 =>
 J29 b34 H42)
 (fun J35 => ift ((x32 : Int) == 6)
 (ldS H27 ((b12, 0).1, (b12, 0).2 + 3) fun x38 =>
 QeT C x38 (fun r40 H41 =>
 J35 r40 H41) H27)
 (J35 false H27)))))
 (fun J22 => ift ((x19 : Int) == 1)
 (J22 true H14)
 (ldI H14 .u8 ((b12, 0).1, (b12, 0).2 + 0) fun x25 =>
 J22 ((x25 : Int) == 5) H14)))) H13) H2) H
theorem QjC (C p_w p_e K H) (h : Qf4 C p_w p_e K H) : Qeo C p_w p_e K H := by
 refine Ye Tryz.func171 rfl Tryz.ntmps171 [(0, pv p_w), (1, .agg (Qa.c p_e).toArray)] (Zo (GL.box (v := .agg (Qa.c p_e).toArray) (cs := Qa.c p_e) h trivial rfl rfl rfl ?_))
 intro b1 H2 h
 refine GL.nil (Zo (Zf (Yl h fun x3 h => ?_)))
 refine Yx h fun p5 h => ?_
 obtain ⟨x10, v11, h⟩ := h
 refine Zv (OV.loadT rfl rfl rfl v11) (GL.alloc (cs := Qa.c Qa.zero) h trivial rfl rfl rfl ?_)
 intro b12 H13 h
 refine GL.storeT (p := (b12, 0)) (vs := Qa.c x10) h trivial rfl rfl rfl rfl ?_
 intro H14 h
 refine GL.nil ?_
 obtain ⟨J15, h, hR18⟩ := h
 refine GC.join (α := Unit) J15 (fun _ => [(0, pv p_w), (3, pv (some (b1, 0)))]) ?_ ?_
 refine Zo (Zf (Yl h fun x19 h => ?_))
 refine Zi (.bool ((x19 : Int) == 1)) (Zm ?_)
 obtain ⟨J22, h, hR23⟩ := h
 refine GL.cut (α := Bool) 4 J22 (fun b21 => [(16, .bool b21), (0, pv p_w), (3, pv (some (b1, 0))), (4, pv (some (b12, 0)))]) ?_ ?_
 rcases h.em with ⟨u24, h⟩ | ⟨u24, h⟩
 refine Zk u24 (Zk u24 (Zk u24 (Zt u24 ?_)))
 exact Yj I3 true h
 refine Zu u24 Yf ?_
 obtain ⟨x25, v26, h⟩ := h
 refine Zu u24 (Yo v26) (Zu u24 (OV.ibin (v := .bool ((x25 : Int) == 5)) rfl rfl rfl) (Zn u24 ?_))
 exact Yj I3 ((x25 : Int) == 5) h
 intro b21 H27 h
 replace h := hR23 b21 H27 h
 refine Zm ?_
 obtain ⟨J29, h, hR30⟩ := h
 refine GL.cut (α := Bool) 9 J29 (fun b28 => [(26, .bool b28), (0, pv p_w), (3, pv (some (b1, 0))), (4, pv (some (b12, 0)))]) ?_ ?_
 rcases h.em with ⟨u31, h⟩ | ⟨u31, h⟩
 refine Zk u31 (Zk u31 (Zk u31 (Zk u31 (GL.skip ⟨_, rfl, .inr rfl⟩ rfl (GL.skip ⟨_, rfl, .inr rfl⟩ rfl (GL.skip ⟨_, rfl, .inr rfl⟩ rfl (Zk u31 (Zt u31 ?_))))))))
 exact Yj I3 true h
 refine Zu u31 Yf ?_
 obtain ⟨x32, v33, h⟩ := h
 refine Zu u31 (Yo v33) (Zu u31 (OV.ibin (v := .bool ((x32 : Int) == 6)) rfl rfl rfl) (Zu u31 Ym ?_))
 obtain ⟨J35, h, hR36⟩ := h
 refine GL.cut (α := Bool) 4 J35 (fun b34 => [(25, .bool b34), (0, pv p_w), (3, pv (some (b1, 0))), (4, pv (some (b12, 0))), (17, .bool b21)]) ?_ ?_
 rcases h.em with ⟨u37, h⟩ | ⟨u37, h⟩
 refine Zu u37 Yf ?_
 obtain ⟨x38, v39, h⟩ := h
 refine Zu u37 (Yo v39) (GL.call h (Yt u37) rfl Qil (vs := [sv x38]) rfl ?_)
 rintro _ H41 ⟨r40, rfl, h⟩
 refine Zu u31 (OV.pickT rfl u37 rfl) ?_
 exact Yj I3 r40 h
 refine Zk u37 (Zk u37 (Zk u37 (Zu u31 (OV.pickF rfl u37 rfl) ?_)))
 exact Yj I3 false h
 intro b34 H42 h
 replace h := hR36 b34 H42 h
 refine Zn u31 ?_
 exact Yj I3 b34 h
 intro b28 H43 h
 replace h := hR30 b28 H43 h
 refine GL.nil (Yd h (fun u44 h => ?_) fun u44 h => ?_)
 refine GC.region (Zm (Zf (Yl h fun x45 h => ?_)))
 refine Zm (Zv (OV.makeFunc (vs := [pv p_w]) (us := []) rfl rfl) (Zc h QZ ?_))
 rintro _ H47 ⟨rfl, h⟩
 exact Yj I3 () h
 refine GC.region (Zm ?_)
 obtain ⟨x48, v49, h⟩ := h
 refine Zv (OV.loadT rfl rfl rfl v49) (Zc h Q7 ?_)
 rintro _ H50 ⟨rfl, h⟩
 exact Yj I3 () h
 intro x16 H17 h
 replace h := hR18 x16 H17 h
 refine GC.region (Zm (Zf (Yl h fun x51 h => ?_)))
 refine GL.buildSlice (cs := [sv [46], sv x51]) h trivial rfl (vs := [(0, sv [46]), (1, sv x51)]) rfl ⟨9, fun _ => by kernel_rfl⟩ ?_
 intro b53 H54 h
 refine Zc h QT ?_
 rintro _ H55 ⟨rfl, h⟩
 exact GL.ends (fun _ _ hf hs => QC rfl hf hs ⟨rfl, h⟩)
def QcT (C : Ctx) (p_s : Sl) (p_v : Str) (K : Int → Heap → Prop) (H : Heap) : Prop :=
 lp (α := Int) 0 H (fun x1 J2 H3 =>
 ift (decide ((x1 : Int) < (Sl.len p_s : Int)))
 (ixa p_s x1 fun p5 =>
 ldS H3 (p5.1, p5.2 + (x1 : Int).toNat * 1) fun x10 =>
 ift (p_v == x10)
 (K x1 H3)
 (J2 (w .i64 (x1 + 1)) H3))
 (K (-1) H3))
theorem QfN (C p_s p_v K H) (h : QcT C p_s p_v K H) : Qdb C p_s p_v K H := by
 refine Ye Tryz.func173 rfl Tryz.ntmps173 [(0, slv p_s), (1, sv p_v)] (Zo (Za (GL.nil (GC.seq (Zo (Zm (Zq (Zm (GL.nil (GC.block (Yp h (fun x1 => [(8, .int .i64 x1), (0, slv p_s), (1, sv p_v), (7, .int .i64 (Sl.len p_s : Int))]) ?_)))))))))))
 intro x1 H3 J2 h
 refine Zo (Zi (.bool (decide ((x1 : Int) < (Sl.len p_s : Int)))) (GL.nil (GC.seq (Yd h (fun u4 h => ?_) fun u4 h => ?_))))
 refine GC.skip (GC.seq (GC.block (Zo (Zm (Za (GL.nil (Zo (Zm (Zm (Zm (Yx h fun p5 h => ?_)))))))))))
 refine Yl h fun x10 h => ?_
 refine Zv (OV.sbin (a := p_v) (b := x10) (v := .bool (p_v == x10)) rfl rfl rfl) (GL.nil (Yd h (fun u12 h => ?_) fun u12 h => ?_))
 refine Zo (Zm (Za (GL.nil ?_)))
 exact Y1 I3 ⟨x1, rfl, h⟩
 refine GC.skip_to (fun _ _ h => h) (GC.region (Zi (.int .i64 (w .i64 (x1 + 1))) (Zm ?_)))
 exact Yj I3 (w .i64 (x1 + 1)) h
 refine GC.exit_to (fun _ _ h => h) (Zo (Za (GL.nil ?_)))
 exact Y1 I3 ⟨(-1), rfl, h⟩
def Qgv (C : Ctx) (p_w : Option (Nat × Nat)) (p_l : Sl) (p_between : Str) (p_write : Value) (K : Heap → Prop) (H : Heap) : Prop :=
 lp (α := Int) 0 H (fun x1 J2 H3 =>
 ift (decide ((x1 : Int) < (Sl.len p_l : Int)))
 (ixa p_l x1 fun p5 =>
 ldS H3 (p5.1, p5.2 + (x1 : Int).toNat * 1) fun x10 =>
 jn (α := Unit) (fun x13 H14 =>
 callU Tryz.prog C p_write [sv x10] H14 (fun v H22 => v = .tuple #[] ∧
 J2 (w .i64 (x1 + 1)) H22))
 (fun J12 => ift (decide ((x1 : Int) > 0))
 (nck p_w fun p17 =>
 Qm C (some (p17.1, p17.2 + 0)) p_between (fun r19 r20 H21 =>
 J12 () H21) H3)
 (J12 () H3)))
 (K H3))
theorem Qkm (C p_w p_l p_between p_write K H) (h : Qgv C p_w p_l p_between p_write K H) : QgJ C p_w p_l p_between p_write K H := by
 refine Ye Tryz.func174 rfl Tryz.ntmps174 [(0, pv p_w), (1, slv p_l), (2, sv p_between), (3, p_write)] (Zo (Zm (Zq (Zm (GL.nil (GC.block (Yp h (fun x1 => [(12, .int .i64 x1), (0, pv p_w), (2, sv p_between), (3, p_write), (10, slv p_l), (11, .int .i64 (Sl.len p_l : Int))]) ?_)))))))
 intro x1 H3 J2 h
 refine Zo (Zi (.bool (decide ((x1 : Int) < (Sl.len p_l : Int)))) (GL.nil (GC.seq (Yd h (fun u4 h => ?_) fun u4 h => ?_))))
 refine GC.skip (GC.seq (GC.block (Zo (Zm (Yx h fun p5 h => ?_)))))
 refine Yl h fun x10 h => ?_
 refine Za (Za (GL.nil ?_))
 obtain ⟨J12, h, hR15⟩ := h
 refine GC.join (α := Unit) J12 (fun _ => [(0, pv p_w), (2, sv p_between), (3, p_write), (9, sv x10), (10, slv p_l), (11, .int .i64 (Sl.len p_l : Int)), (12, .int .i64 x1)]) ?_ ?_
 refine Zo (Zm (Zi (.bool (decide ((x1 : Int) > 0))) (GL.nil (Yd h (fun u16 h => ?_) fun u16 h => ?_))))
 refine GC.region (Zm ?_)
 obtain ⟨p17, hp18, h⟩ := h
 refine Zv (OV.nilCheck (q := p_w) rfl hp18) (Zf (Zm (Zc h Qn ?_)))
 rintro _ H21 ⟨r19, r20, rfl, h⟩
 exact Yj I3 () h
 exact Yk I3 () h
 intro x13 H14 h
 replace h := hR15 x13 H14 h
 refine GC.region (Zm (Zm (GL.callU (xv := p_write) (vs := [sv x10]) h trivial rfl rfl rfl ?_)))
 rintro _ H22 ⟨rfl, h⟩
 refine GL.nil_to (fun _ _ h => h) (GC.region (Zi (.int .i64 (w .i64 (x1 + 1))) (Zm ?_)))
 exact Yj I3 (w .i64 (x1 + 1)) h
 exact GC.exit_ends (fun _ _ hf hs => QC rfl hf hs ⟨rfl, h⟩)
def Qej (C : Ctx) (p_w : Option (Nat × Nat)) (p_l : Sl) (p_between : Str) (p_write : Value) (K : Heap → Prop) (H : Heap) : Prop :=
 lp (α := Int) 0 H (fun x1 J2 H3 =>
 ift (decide ((x1 : Int) < (Sl.len p_l : Int)))
 (ixa p_l x1 fun p5 =>
 ldT H3 Qb.c (p5.1, p5.2 + (x1 : Int).toNat * 3) fun x10 =>
 nw (Qb.c Qb.zero) (fun b12 H13 =>
 stT (b12, 0) (Qb.c x10) (fun H14 =>
 jn (α := Unit) (fun x16 H17 =>
 ldT H17 Qb.c (b12, 0) fun x25 =>
 callU Tryz.prog C p_write [.agg (Qb.c x25).toArray] H17 (fun v H27 => v = .tuple #[] ∧
 J2 (w .i64 (x1 + 1)) H27))
 (fun J15 => ift (decide ((x1 : Int) > 0))
 (nck p_w fun p20 =>
 Qm C (some (p20.1, p20.2 + 0)) p_between (fun r22 r23 H24 =>
 J15 () H24) H14)
 (J15 () H14))) H13) H3)
 (K H3))
theorem Qg5 (C p_w p_l p_between p_write K H) (h : Qej C p_w p_l p_between p_write K H) : Qcn C p_w p_l p_between p_write K H := by
 refine Ye Tryz.func175 rfl Tryz.ntmps175 [(0, pv p_w), (1, slv p_l), (2, sv p_between), (3, p_write)] (Zo (Zm (Zq (Zm (GL.nil (GC.block (Yp h (fun x1 => [(12, .int .i64 x1), (0, pv p_w), (2, sv p_between), (3, p_write), (10, slv p_l), (11, .int .i64 (Sl.len p_l : Int))]) ?_)))))))
 intro x1 H3 J2 h
 refine Zo (Zi (.bool (decide ((x1 : Int) < (Sl.len p_l : Int)))) (GL.nil (GC.seq (Yd h (fun u4 h => ?_) fun u4 h => ?_))))
 refine GC.skip (GC.seq (GC.block (Zo (Zm (Yx h fun p5 h => ?_)))))
 obtain ⟨x10, v11, h⟩ := h
 refine Zv (OV.loadT rfl rfl rfl v11) (GL.alloc (cs := Qb.c Qb.zero) h trivial rfl rfl rfl ?_)
 intro b12 H13 h
 refine Za (GL.storeT (p := (b12, 0)) (vs := Qb.c x10) h trivial rfl rfl rfl rfl ?_)
 intro H14 h
 refine GL.nil ?_
 obtain ⟨J15, h, hR18⟩ := h
 refine GC.join (α := Unit) J15 (fun _ => [(0, pv p_w), (2, sv p_between), (3, p_write), (9, pv (some (b12, 0))), (10, slv p_l), (11, .int .i64 (Sl.len p_l : Int)), (12, .int .i64 x1)]) ?_ ?_
 refine Zo (Zm (Zi (.bool (decide ((x1 : Int) > 0))) (GL.nil (Yd h (fun u19 h => ?_) fun u19 h => ?_))))
 refine GC.region (Zm ?_)
 obtain ⟨p20, hp21, h⟩ := h
 refine Zv (OV.nilCheck (q := p_w) rfl hp21) (Zf (Zm (Zc h Qn ?_)))
 rintro _ H24 ⟨r22, r23, rfl, h⟩
 exact Yj I3 () h
 exact Yk I3 () h
 intro x16 H17 h
 replace h := hR18 x16 H17 h
 refine GC.region (Zm ?_)
 obtain ⟨x25, v26, h⟩ := h
 refine Zv (OV.loadT rfl rfl rfl v26) (GL.callU (xv := p_write) (vs := [.agg (Qb.c x25).toArray]) h trivial rfl rfl rfl ?_)
 rintro _ H27 ⟨rfl, h⟩
 refine GL.nil_to (fun _ _ h => h) (GC.region (Zi (.int .i64 (w .i64 (x1 + 1))) (Zm ?_)))
 exact Yj I3 (w .i64 (x1 + 1)) h
 exact GC.exit_ends (fun _ _ hf hs => QC rfl hf hs ⟨rfl, h⟩)
def QgW (C : Ctx) (p_w : Option (Nat × Nat)) (p_t : Qg) (K : Heap → Prop) (H : Heap) : Prop :=
 nw (Qg.c p_t) (fun b1 H2 =>
 jn (α := Unit) (fun x4 H5 =>
 ldS H5 ((b1, 0).1, (b1, 0).2 + 0) fun x20 =>
 jn (α := Bool) (fun b22 H28 =>
 ift b22
 (ldL H28 ((b1, 0).1, (b1, 0).2 + 1) fun x30 =>
 Qck C p_w x30 (.func (.func 176) (List.toArray [pv p_w]) (List.toArray []) : Value) (fun H32 =>
 K H32) H28)
 (K H28))
 (fun J23 => ift (x20 == ([116, 117, 112, 108, 101] : Str))
 (J23 true H5)
 (ldL H5 ((b1, 0).1, (b1, 0).2 + 1) fun x26 =>
 J23 (decide (((Sl.len x26 : Int) : Int) > 0)) H5)))
 (fun J3 => ldS H2 ((b1, 0).1, (b1, 0).2 + 0) fun x7 =>
 ift (!(x7 == ([116, 117, 112, 108, 101] : Str)))
 (dr H2 fun Hs10 =>
 nck p_w fun p12 =>
 ldS Hs10 ((b1, 0).1, (b1, 0).2 + 0) fun x14 =>
 Qm C (some (p12.1, p12.2 + 0)) x14 (fun r17 r18 H19 =>
 Heap.le Hs10 H19 ∧
 J3 () H19) H2)
 (J3 () H2))) H
theorem QkD (C p_w p_t K H) (h : QgW C p_w p_t K H) : Qfq C p_w p_t K H := by
 refine Ye Tryz.func176 rfl Tryz.ntmps176 [(0, pv p_w), (1, .agg (Qg.c p_t).toArray)] (Zo (GL.box (v := .agg (Qg.c p_t).toArray) (cs := Qg.c p_t) h trivial rfl rfl rfl ?_))
 intro b1 H2 h
 refine GL.nil ?_
 obtain ⟨J3, h, hR6⟩ := h
 refine GC.join (α := Unit) J3 (fun _ => [(0, pv p_w), (3, pv (some (b1, 0)))]) ?_ ?_
 refine Zo (Zf (Yl h fun x7 h => ?_))
 refine Zv (OV.sbin (a := x7) (b := ([116, 117, 112, 108, 101] : Str)) (v := .bool (!(x7 == ([116, 117, 112, 108, 101] : Str)))) rfl rfl rfl) (GL.nil (Yd h (fun u9 h => ?_) fun u9 h => ?_))
 obtain ⟨Hs10, hle11, h⟩ := h
 refine GC.any (Hs := Hs10) (by kernel_rfl) hle11 (Zp 0 rfl Ym ?_)
 obtain ⟨p12, hp13, h⟩ := h
 refine Zp 1 rfl (OV.nilCheck (q := p_w) rfl hp13) (Zp 2 rfl Yf (Zp 3 rfl Yf ?_))
 obtain ⟨x14, v15, h⟩ := h
 refine Zp 4 rfl (Yo v15) (GA.eff 5 rfl (by kernel_rfl) (Zc h Qn ?_))
 rintro _ H19 ⟨r17, r18, rfl, h⟩
 obtain ⟨hle16, h⟩ := h
 refine GA.back hle16 (GA.done (by kernel_rfl) ?_)
 exact Yj I3 () h
 exact Yk I3 () h
 intro x4 H5 h
 replace h := hR6 x4 H5 h
 refine Zo (Zf (Yl h fun x20 h => ?_))
 refine Zv (OV.sbin (a := x20) (b := ([116, 117, 112, 108, 101] : Str)) (v := .bool (x20 == ([116, 117, 112, 108, 101] : Str))) rfl rfl rfl) (Zm ?_)
 obtain ⟨J23, h, hR24⟩ := h
 refine GL.cut (α := Bool) 5 J23 (fun b22 => [(21, .bool b22), (0, pv p_w), (3, pv (some (b1, 0)))]) ?_ ?_
 rcases h.em with ⟨u25, h⟩ | ⟨u25, h⟩
 refine Zk u25 (Zk u25 (Zk u25 (Zk u25 (Zt u25 ?_))))
 exact Yj I3 true h
 refine Zu u25 Yf ?_
 obtain ⟨x26, v27, h⟩ := h
 refine Zu u25 (Yo v27) (Zu u25 (OV.lenSl rfl rfl) (Zu u25 (OV.ibin (v := .bool (decide (((Sl.len x26 : Int) : Int) > 0))) rfl rfl rfl) (Zn u25 ?_)))
 exact Yj I3 (decide (((Sl.len x26 : Int) : Int) > 0)) h
 intro b22 H28 h
 replace h := hR24 b22 H28 h
 refine GL.nil (Yd h (fun u29 h => ?_) fun u29 h => ?_)
 refine GC.region (Zm (Zf (Yl h fun x30 h => ?_)))
 refine Zm (Zv (OV.makeFunc (vs := [pv p_w]) (us := []) rfl rfl) (Zc h Qhg ?_))
 rintro _ H32 ⟨rfl, h⟩
 exact GL.ends (fun _ _ hf hs => QC rfl hf hs ⟨rfl, h⟩)
 exact GC.ends (fun _ _ hf hs => QC rfl hf hs ⟨rfl, h⟩)
def QdC (C : Ctx) (p_w : Option (Nat × Nat)) (p_l : Sl) (p_between : Str) (p_write : Value) (K : Heap → Prop) (H : Heap) : Prop :=
 lp (α := Int) 0 H (fun x1 J2 H3 =>
 ift (decide ((x1 : Int) < (Sl.len p_l : Int)))
 (ixa p_l x1 fun p5 =>
 ldT H3 Qa.c (p5.1, p5.2 + (x1 : Int).toNat * 9) fun x10 =>
 nw (Qa.c Qa.zero) (fun b12 H13 =>
 stT (b12, 0) (Qa.c x10) (fun H14 =>
 jn (α := Unit) (fun x16 H17 =>
 ldT H17 Qa.c (b12, 0) fun x25 =>
 callU Tryz.prog C p_write [.agg (Qa.c x25).toArray] H17 (fun v H27 => v = .tuple #[] ∧
 J2 (w .i64 (x1 + 1)) H27))
 (fun J15 => ift (decide ((x1 : Int) > 0))
 (nck p_w fun p20 =>
 Qm C (some (p20.1, p20.2 + 0)) p_between (fun r22 r23 H24 =>
 J15 () H24) H14)
 (J15 () H14))) H13) H3)
 (K H3))
theorem Qfv (C p_w p_l p_between p_write K H) (h : QdC C p_w p_l p_between p_write K H) : QaX C p_w p_l p_between p_write K H := by
 refine Ye Tryz.func177 rfl Tryz.ntmps177 [(0, pv p_w), (1, slv p_l), (2, sv p_between), (3, p_write)] (Zo (Zm (Zq (Zm (GL.nil (GC.block (Yp h (fun x1 => [(12, .int .i64 x1), (0, pv p_w), (2, sv p_between), (3, p_write), (10, slv p_l), (11, .int .i64 (Sl.len p_l : Int))]) ?_)))))))
 intro x1 H3 J2 h
 refine Zo (Zi (.bool (decide ((x1 : Int) < (Sl.len p_l : Int)))) (GL.nil (GC.seq (Yd h (fun u4 h => ?_) fun u4 h => ?_))))
 refine GC.skip (GC.seq (GC.block (Zo (Zm (Yx h fun p5 h => ?_)))))
 obtain ⟨x10, v11, h⟩ := h
 refine Zv (OV.loadT rfl rfl rfl v11) (GL.alloc (cs := Qa.c Qa.zero) h trivial rfl rfl rfl ?_)
 intro b12 H13 h
 refine Za (GL.storeT (p := (b12, 0)) (vs := Qa.c x10) h trivial rfl rfl rfl rfl ?_)
 intro H14 h
 refine GL.nil ?_
 obtain ⟨J15, h, hR18⟩ := h
 refine GC.join (α := Unit) J15 (fun _ => [(0, pv p_w), (2, sv p_between), (3, p_write), (9, pv (some (b12, 0))), (10, slv p_l), (11, .int .i64 (Sl.len p_l : Int)), (12, .int .i64 x1)]) ?_ ?_
 refine Zo (Zm (Zi (.bool (decide ((x1 : Int) > 0))) (GL.nil (Yd h (fun u19 h => ?_) fun u19 h => ?_))))
 refine GC.region (Zm ?_)
 obtain ⟨p20, hp21, h⟩ := h
 refine Zv (OV.nilCheck (q := p_w) rfl hp21) (Zf (Zm (Zc h Qn ?_)))
 rintro _ H24 ⟨r22, r23, rfl, h⟩
 exact Yj I3 () h
 exact Yk I3 () h
 intro x16 H17 h
 replace h := hR18 x16 H17 h
 refine GC.region (Zm ?_)
 obtain ⟨x25, v26, h⟩ := h
 refine Zv (OV.loadT rfl rfl rfl v26) (GL.callU (xv := p_write) (vs := [.agg (Qa.c x25).toArray]) h trivial rfl rfl rfl ?_)
 rintro _ H27 ⟨rfl, h⟩
 refine GL.nil_to (fun _ _ h => h) (GC.region (Zi (.int .i64 (w .i64 (x1 + 1))) (Zm ?_)))
 exact Yj I3 (w .i64 (x1 + 1)) h
 exact GC.exit_ends (fun _ _ hf hs => QC rfl hf hs ⟨rfl, h⟩)
def QhO (C : Ctx) (p_t : Qg) (K : Int → Heap → Prop) (H : Heap) : Prop :=
 nw (Qg.c p_t) (fun b1 H2 =>
 ldL H2 ((b1, 0).1, (b1, 0).2 + 1) fun x3 =>
 Q6 C x3 (.func (.func 181) (List.toArray []) (List.toArray []) : Value) (fun r5 H6 =>
 K (w .i64 (1 + r5)) H6) H2) H
theorem Qla (C p_t K H) (h : QhO C p_t K H) : Qbw C p_t K H := by
 refine Ye Tryz.func181 rfl Tryz.ntmps181 [(0, .agg (Qg.c p_t).toArray)] (Zo (GL.box (v := .agg (Qg.c p_t).toArray) (cs := Qg.c p_t) h trivial rfl rfl rfl ?_))
 intro b1 H2 h
 refine Za (GL.nil (Zo (Zf (Yl h fun x3 h => ?_))))
 refine Zc h QhE ?_
 rintro _ H6 ⟨r5, rfl, h⟩
 refine Zi (.int .i64 (w .i64 (1 + r5))) (Za (GL.nil ?_))
 exact Y1 I3 ⟨(w .i64 (1 + r5)), rfl, h⟩
def Qa5 (C : Ctx) (p_s : Sl) (p_f : Value) (K : Int → Heap → Prop) (H : Heap) : Prop :=
 lp (α := Int) 0 H (fun x1 J2 H3 =>
 ift (decide ((x1 : Int) < (Sl.len p_s : Int)))
 (ixa p_s x1 fun p5 =>
 ldT H3 Qj.c (p5.1, p5.2 + (x1 : Int).toNat * 3) fun x10 =>
 callU Tryz.prog C p_f [.agg (Qj.c x10).toArray] H3 (fun v H13 => ∃ (r12 : Bool), v = .bool r12 ∧
 ift r12
 (K x1 H13)
 (J2 (w .i64 (x1 + 1)) H13)))
 (K (-1) H3))
theorem Qc3 (C p_s p_f K H) (h : Qa5 C p_s p_f K H) : Qbe C p_s p_f K H := by
 refine Ye Tryz.func183 rfl Tryz.ntmps183 [(0, slv p_s), (1, p_f)] (Zo (Za (GL.nil (GC.seq (Zo (Zm (Zq (Zm (GL.nil (GC.block (Yp h (fun x1 => [(8, .int .i64 x1), (0, slv p_s), (1, p_f), (7, .int .i64 (Sl.len p_s : Int))]) ?_)))))))))))
 intro x1 H3 J2 h
 refine Zo (Zi (.bool (decide ((x1 : Int) < (Sl.len p_s : Int)))) (GL.nil (GC.seq (Yd h (fun u4 h => ?_) fun u4 h => ?_))))
 refine GC.skip (GC.seq (GC.block (Zo (Zm (Za (GL.nil (Zo (Zm (Zm (Zm (Yx h fun p5 h => ?_)))))))))))
 obtain ⟨x10, v11, h⟩ := h
 refine Zv (OV.loadT rfl rfl rfl v11) (GL.callU (xv := p_f) (vs := [.agg (Qj.c x10).toArray]) h trivial rfl rfl rfl ?_)
 rintro _ H13 ⟨r12, rfl, h⟩
 refine GL.nil (Yd h (fun u14 h => ?_) fun u14 h => ?_)
 refine Zo (Zm (Za (GL.nil ?_)))
 exact Y1 I3 ⟨x1, rfl, h⟩
 refine GC.skip_to (fun _ _ h => h) (GC.region (Zi (.int .i64 (w .i64 (x1 + 1))) (Zm ?_)))
 exact Yj I3 (w .i64 (x1 + 1)) h
 refine GC.exit_to (fun _ _ h => h) (Zo (Za (GL.nil ?_)))
 exact Y1 I3 ⟨(-1), rfl, h⟩
def QaW (C : Ctx) (p_s : Sl) (p_f : Value) (K : Int → Heap → Prop) (H : Heap) : Prop :=
 lp (α := Int) 0 H (fun x1 J2 H3 =>
 ift (decide ((x1 : Int) < (Sl.len p_s : Int)))
 (ixa p_s x1 fun p5 =>
 ldT H3 Qf.c (p5.1, p5.2 + (x1 : Int).toNat * 6) fun x10 =>
 callU Tryz.prog C p_f [.agg (Qf.c x10).toArray] H3 (fun v H13 => ∃ (r12 : Bool), v = .bool r12 ∧
 ift r12
 (K x1 H13)
 (J2 (w .i64 (x1 + 1)) H13)))
 (K (-1) H3))
theorem QcB (C p_s p_f K H) (h : QaW C p_s p_f K H) : Qa0 C p_s p_f K H := by
 refine Ye Tryz.func184 rfl Tryz.ntmps184 [(0, slv p_s), (1, p_f)] (Zo (Za (GL.nil (GC.seq (Zo (Zm (Zq (Zm (GL.nil (GC.block (Yp h (fun x1 => [(8, .int .i64 x1), (0, slv p_s), (1, p_f), (7, .int .i64 (Sl.len p_s : Int))]) ?_)))))))))))
 intro x1 H3 J2 h
 refine Zo (Zi (.bool (decide ((x1 : Int) < (Sl.len p_s : Int)))) (GL.nil (GC.seq (Yd h (fun u4 h => ?_) fun u4 h => ?_))))
 refine GC.skip (GC.seq (GC.block (Zo (Zm (Za (GL.nil (Zo (Zm (Zm (Zm (Yx h fun p5 h => ?_)))))))))))
 obtain ⟨x10, v11, h⟩ := h
 refine Zv (OV.loadT rfl rfl rfl v11) (GL.callU (xv := p_f) (vs := [.agg (Qf.c x10).toArray]) h trivial rfl rfl rfl ?_)
 rintro _ H13 ⟨r12, rfl, h⟩
 refine GL.nil (Yd h (fun u14 h => ?_) fun u14 h => ?_)
 refine Zo (Zm (Za (GL.nil ?_)))
 exact Y1 I3 ⟨x1, rfl, h⟩
 refine GC.skip_to (fun _ _ h => h) (GC.region (Zi (.int .i64 (w .i64 (x1 + 1))) (Zm ?_)))
 exact Yj I3 (w .i64 (x1 + 1)) h
 refine GC.exit_to (fun _ _ h => h) (Zo (Za (GL.nil ?_)))
 exact Y1 I3 ⟨(-1), rfl, h⟩
def QbI (C : Ctx) (p_s : Sl) (p_f : Value) (K : Bool → Heap → Prop) (H : Heap) : Prop :=
 Qb7 C p_s p_f (fun r1 H2 =>
 K (decide ((r1 : Int) ≥ 0)) H2) H
theorem Qd5 (C p_s p_f K H) (h : QbI C p_s p_f K H) : QbK C p_s p_f K H := by
 refine Ye Tryz.func185 rfl Tryz.ntmps185 [(0, slv p_s), (1, p_f)] (Zo (Za (GL.nil (Zo (Zm (Zm (Zc h QeY ?_)))))))
 rintro _ H2 ⟨r1, rfl, h⟩
 refine Zi (.bool (decide ((r1 : Int) ≥ 0))) (Za (GL.nil ?_))
 exact Y1 I3 ⟨(decide ((r1 : Int) ≥ 0)), rfl, h⟩
def Qf2 (C : Ctx) (p_x : Str) (v0 : Nat × Nat) (K : Bool → Heap → Prop) (H : Heap) : Prop :=
 ldV H v0 fun x1 =>
 callU Tryz.prog C x1 [sv p_x] H (fun v H4 => ∃ (r3 : Bool), v = .bool r3 ∧
 K (!r3) H4)
theorem QjA (C p_x v0 K H) (h : Qf2 C p_x v0 K H) : Qgl C p_x v0 K H := by
 refine Ye Tryz.func186 rfl Tryz.ntmps186 [(0, sv p_x), (1, pv (some v0))] (Zo (Za (GL.nil (Zo (Yl h fun x1 h => ?_)))))
 refine Zm (GL.callU (xv := x1) (vs := [sv p_x]) h trivial rfl rfl rfl ?_)
 rintro _ H4 ⟨r3, rfl, h⟩
 refine Zv (OV.not rfl) (Za (GL.nil ?_))
 exact Y1 I3 ⟨(!r3), rfl, h⟩
def QfY (C : Ctx) (p_s : Str) (p_prefix : Str) (K : Bool → Heap → Prop) (H : Heap) : Prop :=
 Qah C p_s p_prefix (fun r1 H2 =>
 K r1 H2) H
theorem Qjw (C p_s p_prefix K H) (h : QfY C p_s p_prefix K H) : Qgk C p_s p_prefix K H := by
 refine Ye Tryz.func187 rfl Tryz.ntmps187 [(0, sv p_s), (1, sv p_prefix)] (Zo (Za (GL.nil (Zo (Zm (Zm (Zc h QbY ?_)))))))
 rintro _ H2 ⟨r1, rfl, h⟩
 refine Za (GL.nil ?_)
 exact Y1 I3 ⟨r1, rfl, h⟩
def Qas (C : Ctx) (p_s : Sl) (p_f : Value) (K : Bool → Heap → Prop) (H : Heap) : Prop :=
 QaY C p_s p_f (fun r1 H2 =>
 K (decide ((r1 : Int) ≥ 0)) H2) H
theorem Qb9 (C p_s p_f K H) (h : Qas C p_s p_f K H) : QaB C p_s p_f K H := by
 refine Ye Tryz.func188 rfl Tryz.ntmps188 [(0, slv p_s), (1, p_f)] (Zo (Za (GL.nil (Zo (Zm (Zm (Zc h QcJ ?_)))))))
 rintro _ H2 ⟨r1, rfl, h⟩
 refine Zi (.bool (decide ((r1 : Int) ≥ 0))) (Za (GL.nil ?_))
 exact Y1 I3 ⟨(decide ((r1 : Int) ≥ 0)), rfl, h⟩
def Qee (C : Ctx) (p_x : Qe) (v0 : Nat × Nat) (K : Bool → Heap → Prop) (H : Heap) : Prop :=
 nw (Qe.c p_x) (fun b1 H2 =>
 ldV H2 v0 fun x3 =>
 ldT H2 Qe.c (b1, 0) fun x5 =>
 callU Tryz.prog C x3 [.agg (Qe.c x5).toArray] H2 (fun v H8 => ∃ (r7 : Bool), v = .bool r7 ∧
 K (!r7) H8)) H
theorem Qg0 (C p_x v0 K H) (h : Qee C p_x v0 K H) : Qes C p_x v0 K H := by
 refine Ye Tryz.func189 rfl Tryz.ntmps189 [(0, .agg (Qe.c p_x).toArray), (1, pv (some v0))] (Zo (GL.box (v := .agg (Qe.c p_x).toArray) (cs := Qe.c p_x) h trivial rfl rfl rfl ?_))
 intro b1 H2 h
 refine Za (GL.nil (Zo (Yl h fun x3 h => ?_)))
 obtain ⟨x5, hr6, h⟩ := h
 refine Zv (OV.loadT rfl rfl rfl hr6) (GL.callU (xv := x3) (vs := [.agg (Qe.c x5).toArray]) h trivial rfl rfl rfl ?_)
 rintro _ H8 ⟨r7, rfl, h⟩
 refine Zv (OV.not rfl) (Za (GL.nil ?_))
 exact Y1 I3 ⟨(!r7), rfl, h⟩
def Qa6 (C : Ctx) (p_s : Sl) (p_f : Value) (K : Int → Heap → Prop) (H : Heap) : Prop :=
 lp (α := Int) 0 H (fun x1 J2 H3 =>
 ift (decide ((x1 : Int) < (Sl.len p_s : Int)))
 (ixa p_s x1 fun p5 =>
 ldT H3 Qh.c (p5.1, p5.2 + (x1 : Int).toNat * 6) fun x10 =>
 callU Tryz.prog C p_f [.agg (Qh.c x10).toArray] H3 (fun v H13 => ∃ (r12 : Bool), v = .bool r12 ∧
 ift r12
 (K x1 H13)
 (J2 (w .i64 (x1 + 1)) H13)))
 (K (-1) H3))
theorem Qc4 (C p_s p_f K H) (h : Qa6 C p_s p_f K H) : Qbf C p_s p_f K H := by
 refine Ye Tryz.func190 rfl Tryz.ntmps190 [(0, slv p_s), (1, p_f)] (Zo (Za (GL.nil (GC.seq (Zo (Zm (Zq (Zm (GL.nil (GC.block (Yp h (fun x1 => [(8, .int .i64 x1), (0, slv p_s), (1, p_f), (7, .int .i64 (Sl.len p_s : Int))]) ?_)))))))))))
 intro x1 H3 J2 h
 refine Zo (Zi (.bool (decide ((x1 : Int) < (Sl.len p_s : Int)))) (GL.nil (GC.seq (Yd h (fun u4 h => ?_) fun u4 h => ?_))))
 refine GC.skip (GC.seq (GC.block (Zo (Zm (Za (GL.nil (Zo (Zm (Zm (Zm (Yx h fun p5 h => ?_)))))))))))
 obtain ⟨x10, v11, h⟩ := h
 refine Zv (OV.loadT rfl rfl rfl v11) (GL.callU (xv := p_f) (vs := [.agg (Qh.c x10).toArray]) h trivial rfl rfl rfl ?_)
 rintro _ H13 ⟨r12, rfl, h⟩
 refine GL.nil (Yd h (fun u14 h => ?_) fun u14 h => ?_)
 refine Zo (Zm (Za (GL.nil ?_)))
 exact Y1 I3 ⟨x1, rfl, h⟩
 refine GC.skip_to (fun _ _ h => h) (GC.region (Zi (.int .i64 (w .i64 (x1 + 1))) (Zm ?_)))
 exact Yj I3 (w .i64 (x1 + 1)) h
 refine GC.exit_to (fun _ _ h => h) (Zo (Za (GL.nil ?_)))
 exact Y1 I3 ⟨(-1), rfl, h⟩
def Qao (C : Ctx) (p_s : Sl) (p_f : Value) (K : Bool → Heap → Prop) (H : Heap) : Prop :=
 QaH C p_s p_f (fun r1 H2 =>
 K (decide ((r1 : Int) ≥ 0)) H2) H
theorem QbU (C p_s p_f K H) (h : Qao C p_s p_f K H) : Qap C p_s p_f K H := by
 refine Ye Tryz.func191 rfl Tryz.ntmps191 [(0, slv p_s), (1, p_f)] (Zo (Za (GL.nil (Zo (Zm (Zm (Zc h Qcq ?_)))))))
 rintro _ H2 ⟨r1, rfl, h⟩
 refine Zi (.bool (decide ((r1 : Int) ≥ 0))) (Za (GL.nil ?_))
 exact Y1 I3 ⟨(decide ((r1 : Int) ≥ 0)), rfl, h⟩
def QdR (C : Ctx) (p_x : Qb) (v0 : Nat × Nat) (K : Bool → Heap → Prop) (H : Heap) : Prop :=
 nw (Qb.c p_x) (fun b1 H2 =>
 ldV H2 v0 fun x3 =>
 ldT H2 Qb.c (b1, 0) fun x5 =>
 callU Tryz.prog C x3 [.agg (Qb.c x5).toArray] H2 (fun v H8 => ∃ (r7 : Bool), v = .bool r7 ∧
 K (!r7) H8)) H
theorem QgB (C p_x v0 K H) (h : QdR C p_x v0 K H) : Qd7 C p_x v0 K H := by
 refine Ye Tryz.func192 rfl Tryz.ntmps192 [(0, .agg (Qb.c p_x).toArray), (1, pv (some v0))] (Zo (GL.box (v := .agg (Qb.c p_x).toArray) (cs := Qb.c p_x) h trivial rfl rfl rfl ?_))
 intro b1 H2 h
 refine Za (GL.nil (Zo (Yl h fun x3 h => ?_)))
 obtain ⟨x5, hr6, h⟩ := h
 refine Zv (OV.loadT rfl rfl rfl hr6) (GL.callU (xv := x3) (vs := [.agg (Qb.c x5).toArray]) h trivial rfl rfl rfl ?_)
 rintro _ H8 ⟨r7, rfl, h⟩
 refine Zv (OV.not rfl) (Za (GL.nil ?_))
 exact Y1 I3 ⟨(!r7), rfl, h⟩
def Qf1 (C : Ctx) (p_l : Sl) (p_is : Value) (K : Bool → Heap → Prop) (H : Heap) : Prop :=
 (Value.cells p_is = #[p_is]) ∧ nw ([p_is]) (fun b1 H2 =>
 Qbl C p_l (.func (.func 225) (List.toArray []) (List.toArray [pv (some (b1, 0))]) : Value) (fun r4 H5 =>
 K (!r4) H5) H2) H
theorem Qjz (C p_l p_is K H) (h : Qf1 C p_l p_is K H) : Q4 C p_l p_is K H := by
 refine Ye Tryz.func193 rfl Tryz.ntmps193 [(0, slv p_l), (1, p_is)] (Zo ?_)
 obtain ⟨u3, h⟩ := h
 refine GL.box (v := p_is) (cs := [p_is]) h trivial rfl rfl u3 ?_
 intro b1 H2 h
 refine Za (GL.nil (Zo (Zm (Zv (OV.makeFunc (vs := []) (us := [pv (some (b1, 0))]) rfl rfl) (Zc h Qdq ?_)))))
 rintro _ H5 ⟨r4, rfl, h⟩
 refine Zv (OV.not rfl) (Za (GL.nil ?_))
 exact Y1 I3 ⟨(!r4), rfl, h⟩
def QbA (C : Ctx) (p_s : Sl) (p_f : Value) (K : Int → Heap → Prop) (H : Heap) : Prop :=
 lp (α := Int) 0 H (fun x1 J2 H3 =>
 ift (decide ((x1 : Int) < (Sl.len p_s : Int)))
 (ixa p_s x1 fun p5 =>
 ldT H3 Ql.c (p5.1, p5.2 + (x1 : Int).toNat * 6) fun x10 =>
 callU Tryz.prog C p_f [.agg (Ql.c x10).toArray] H3 (fun v H13 => ∃ (r12 : Bool), v = .bool r12 ∧
 ift r12
 (K x1 H13)
 (J2 (w .i64 (x1 + 1)) H13)))
 (K (-1) H3))
theorem QdU (C p_s p_f K H) (h : QbA C p_s p_f K H) : QbG C p_s p_f K H := by
 refine Ye Tryz.func194 rfl Tryz.ntmps194 [(0, slv p_s), (1, p_f)] (Zo (Za (GL.nil (GC.seq (Zo (Zm (Zq (Zm (GL.nil (GC.block (Yp h (fun x1 => [(8, .int .i64 x1), (0, slv p_s), (1, p_f), (7, .int .i64 (Sl.len p_s : Int))]) ?_)))))))))))
 intro x1 H3 J2 h
 refine Zo (Zi (.bool (decide ((x1 : Int) < (Sl.len p_s : Int)))) (GL.nil (GC.seq (Yd h (fun u4 h => ?_) fun u4 h => ?_))))
 refine GC.skip (GC.seq (GC.block (Zo (Zm (Za (GL.nil (Zo (Zm (Zm (Zm (Yx h fun p5 h => ?_)))))))))))
 obtain ⟨x10, v11, h⟩ := h
 refine Zv (OV.loadT rfl rfl rfl v11) (GL.callU (xv := p_f) (vs := [.agg (Ql.c x10).toArray]) h trivial rfl rfl rfl ?_)
 rintro _ H13 ⟨r12, rfl, h⟩
 refine GL.nil (Yd h (fun u14 h => ?_) fun u14 h => ?_)
 refine Zo (Zm (Za (GL.nil ?_)))
 exact Y1 I3 ⟨x1, rfl, h⟩
 refine GC.skip_to (fun _ _ h => h) (GC.region (Zi (.int .i64 (w .i64 (x1 + 1))) (Zm ?_)))
 exact Yj I3 (w .i64 (x1 + 1)) h
 refine GC.exit_to (fun _ _ h => h) (Zo (Za (GL.nil ?_)))
 exact Y1 I3 ⟨(-1), rfl, h⟩
def Qj3 (C : Ctx) (p_s : Str) (p_sep : Str) (K : Str → Str → Bool → Heap → Prop) (H : Heap) : Prop :=
 QdQ C p_s p_sep (fun r1 r2 r3 H4 =>
 K r1 r2 r3 H4) H
theorem QmM (C p_s p_sep K H) (h : Qj3 C p_s p_sep K H) : Qgb C p_s p_sep K H := by
 refine Ye Tryz.func195 rfl Tryz.ntmps195 [(0, sv p_s), (1, sv p_sep)] (Zo (Za (Za (Za (GL.nil (Zo (Zm (Zm (Zc h Qgp ?_)))))))))
 rintro _ H4 ⟨r1, r2, r3, rfl, h⟩
 refine Yv (sv r1) rfl rfl (Yv (sv r2) rfl rfl (Yv (.bool r3) rfl rfl (Za (Za (Za (GL.nil ?_))))))
 exact Y3 I3 ⟨r1, r2, r3, rfl, h⟩
def Qbg (C : Ctx) (p_s : Sl) (p_f : Value) (K : Bool → Heap → Prop) (H : Heap) : Prop :=
 QbF C p_s p_f (fun r1 H2 =>
 K (decide ((r1 : Int) ≥ 0)) H2) H
theorem Qdk (C p_s p_f K H) (h : Qbg C p_s p_f K H) : Qbj C p_s p_f K H := by
 refine Ye Tryz.func196 rfl Tryz.ntmps196 [(0, slv p_s), (1, p_f)] (Zo (Za (GL.nil (Zo (Zm (Zm (Zc h Qd1 ?_)))))))
 rintro _ H2 ⟨r1, rfl, h⟩
 refine Zi (.bool (decide ((r1 : Int) ≥ 0))) (Za (GL.nil ?_))
 exact Y1 I3 ⟨(decide ((r1 : Int) ≥ 0)), rfl, h⟩
def Qff (C : Ctx) (p_x : Qa) (v0 : Nat × Nat) (K : Bool → Heap → Prop) (H : Heap) : Prop :=
 nw (Qa.c p_x) (fun b1 H2 =>
 ldV H2 v0 fun x3 =>
 ldT H2 Qa.c (b1, 0) fun x5 =>
 callU Tryz.prog C x3 [.agg (Qa.c x5).toArray] H2 (fun v H8 => ∃ (r7 : Bool), v = .bool r7 ∧
 K (!r7) H8)) H
theorem Qiw (C p_x v0 K H) (h : Qff C p_x v0 K H) : Qfw C p_x v0 K H := by
 refine Ye Tryz.func197 rfl Tryz.ntmps197 [(0, .agg (Qa.c p_x).toArray), (1, pv (some v0))] (Zo (GL.box (v := .agg (Qa.c p_x).toArray) (cs := Qa.c p_x) h trivial rfl rfl rfl ?_))
 intro b1 H2 h
 refine Za (GL.nil (Zo (Yl h fun x3 h => ?_)))
 obtain ⟨x5, hr6, h⟩ := h
 refine Zv (OV.loadT rfl rfl rfl hr6) (GL.callU (xv := x3) (vs := [.agg (Qa.c x5).toArray]) h trivial rfl rfl rfl ?_)
 rintro _ H8 ⟨r7, rfl, h⟩
 refine Zv (OV.not rfl) (Za (GL.nil ?_))
 exact Y1 I3 ⟨(!r7), rfl, h⟩
def Qbn (C : Ctx) (p_s : Sl) (p_f : Value) (K : Int → Heap → Prop) (H : Heap) : Prop :=
 lp (α := Int) 0 H (fun x1 J2 H3 =>
 ift (decide ((x1 : Int) < (Sl.len p_s : Int)))
 (ixa p_s x1 fun p5 =>
 ldT H3 Qi.c (p5.1, p5.2 + (x1 : Int).toNat * 4) fun x10 =>
 callU Tryz.prog C p_f [.agg (Qi.c x10).toArray] H3 (fun v H13 => ∃ (r12 : Bool), v = .bool r12 ∧
 ift r12
 (K x1 H13)
 (J2 (w .i64 (x1 + 1)) H13)))
 (K (-1) H3))
theorem Qdr (C p_s p_f K H) (h : Qbn C p_s p_f K H) : Qbq C p_s p_f K H := by
 refine Ye Tryz.func198 rfl Tryz.ntmps198 [(0, slv p_s), (1, p_f)] (Zo (Za (GL.nil (GC.seq (Zo (Zm (Zq (Zm (GL.nil (GC.block (Yp h (fun x1 => [(8, .int .i64 x1), (0, slv p_s), (1, p_f), (7, .int .i64 (Sl.len p_s : Int))]) ?_)))))))))))
 intro x1 H3 J2 h
 refine Zo (Zi (.bool (decide ((x1 : Int) < (Sl.len p_s : Int)))) (GL.nil (GC.seq (Yd h (fun u4 h => ?_) fun u4 h => ?_))))
 refine GC.skip (GC.seq (GC.block (Zo (Zm (Za (GL.nil (Zo (Zm (Zm (Zm (Yx h fun p5 h => ?_)))))))))))
 obtain ⟨x10, v11, h⟩ := h
 refine Zv (OV.loadT rfl rfl rfl v11) (GL.callU (xv := p_f) (vs := [.agg (Qi.c x10).toArray]) h trivial rfl rfl rfl ?_)
 rintro _ H13 ⟨r12, rfl, h⟩
 refine GL.nil (Yd h (fun u14 h => ?_) fun u14 h => ?_)
 refine Zo (Zm (Za (GL.nil ?_)))
 exact Y1 I3 ⟨x1, rfl, h⟩
 refine GC.skip_to (fun _ _ h => h) (GC.region (Zi (.int .i64 (w .i64 (x1 + 1))) (Zm ?_)))
 exact Yj I3 (w .i64 (x1 + 1)) h
 refine GC.exit_to (fun _ _ h => h) (Zo (Za (GL.nil ?_)))
 exact Y1 I3 ⟨(-1), rfl, h⟩
def QaV (C : Ctx) (p_s : Sl) (p_f : Value) (K : Int → Heap → Prop) (H : Heap) : Prop :=
 lp (α := Int) 0 H (fun x1 J2 H3 =>
 ift (decide ((x1 : Int) < (Sl.len p_s : Int)))
 (ixa p_s x1 fun p5 =>
 ldT H3 Qc.c (p5.1, p5.2 + (x1 : Int).toNat * 5) fun x10 =>
 callU Tryz.prog C p_f [.agg (Qc.c x10).toArray] H3 (fun v H13 => ∃ (r12 : Bool), v = .bool r12 ∧
 ift r12
 (K x1 H13)
 (J2 (w .i64 (x1 + 1)) H13)))
 (K (-1) H3))
theorem QcA (C p_s p_f K H) (h : QaV C p_s p_f K H) : QaZ C p_s p_f K H := by
 refine Ye Tryz.func199 rfl Tryz.ntmps199 [(0, slv p_s), (1, p_f)] (Zo (Za (GL.nil (GC.seq (Zo (Zm (Zq (Zm (GL.nil (GC.block (Yp h (fun x1 => [(8, .int .i64 x1), (0, slv p_s), (1, p_f), (7, .int .i64 (Sl.len p_s : Int))]) ?_)))))))))))
 intro x1 H3 J2 h
 refine Zo (Zi (.bool (decide ((x1 : Int) < (Sl.len p_s : Int)))) (GL.nil (GC.seq (Yd h (fun u4 h => ?_) fun u4 h => ?_))))
 refine GC.skip (GC.seq (GC.block (Zo (Zm (Za (GL.nil (Zo (Zm (Zm (Zm (Yx h fun p5 h => ?_)))))))))))
 obtain ⟨x10, v11, h⟩ := h
 refine Zv (OV.loadT rfl rfl rfl v11) (GL.callU (xv := p_f) (vs := [.agg (Qc.c x10).toArray]) h trivial rfl rfl rfl ?_)
 rintro _ H13 ⟨r12, rfl, h⟩
 refine GL.nil (Yd h (fun u14 h => ?_) fun u14 h => ?_)
 refine Zo (Zm (Za (GL.nil ?_)))
 exact Y1 I3 ⟨x1, rfl, h⟩
 refine GC.skip_to (fun _ _ h => h) (GC.region (Zi (.int .i64 (w .i64 (x1 + 1))) (Zm ?_)))
 exact Yj I3 (w .i64 (x1 + 1)) h
 refine GC.exit_to (fun _ _ h => h) (Zo (Za (GL.nil ?_)))
 exact Y1 I3 ⟨(-1), rfl, h⟩
def Qaa (C : Ctx) (p_s1 : Sl) (p_s2 : Sl) (p_eq : Value) (K : Bool → Heap → Prop) (H : Heap) : Prop :=
 ift (((Sl.len p_s1 : Int) : Int) != (Sl.len p_s2 : Int))
 (K false H)
 (lp (α := Int) 0 H (fun x2 J3 H4 =>
 ift (decide ((x2 : Int) < (Sl.len p_s1 : Int)))
 (ixa p_s1 x2 fun p6 =>
 ldT H4 Qg.c (p6.1, p6.2 + (x2 : Int).toNat * 2) fun x11 =>
 nw (Qg.c Qg.zero) (fun b13 H14 =>
 stT (b13, 0) (Qg.c x11) (fun H15 =>
 ixa p_s2 x2 fun p16 =>
 ldT H15 Qg.c (p16.1, p16.2 + (x2 : Int).toNat * 2) fun x21 =>
 nw (Qg.c Qg.zero) (fun b23 H24 =>
 stT (b23, 0) (Qg.c x21) (fun H25 =>
 ldT H25 Qg.c (b13, 0) fun x26 =>
 ldT H25 Qg.c (b23, 0) fun x28 =>
 callU Tryz.prog C p_eq [.agg (Qg.c x26).toArray, .agg (Qg.c x28).toArray] H25 (fun v H31 => ∃ (r30 : Bool), v = .bool r30 ∧
 ift (!r30)
 (K false H31)
 (J3 (w .i64 (x2 + 1)) H31))) H24) H15) H14) H4)
 (K true H4)))
theorem Qbu (C p_s1 p_s2 p_eq K H) (h : Qaa C p_s1 p_s2 p_eq K H) : QB C p_s1 p_s2 p_eq K H := by
 refine Ye Tryz.func204 rfl Tryz.ntmps204 [(0, slv p_s1), (1, slv p_s2), (2, p_eq)] (Zo (Za (GL.nil (GC.seq (Zo (Zm (Zq (Zm (Zq (Zi (.bool (((Sl.len p_s1 : Int) : Int) != (Sl.len p_s2 : Int))) (GL.nil (Yd h (fun u1 h => ?_) fun u1 h => ?_))))))))))))
 refine Zo (Za (GL.nil ?_))
 exact Y1 I3 ⟨false, rfl, h⟩
 refine GC.skip (GC.seq (Zo (Zm (Zq (Zm (GL.nil (GC.block (Yp h (fun x2 => [(17, .int .i64 x2), (1, slv p_s2), (2, p_eq), (15, slv p_s1), (16, .int .i64 (Sl.len p_s1 : Int))]) ?_))))))))
 intro x2 H4 J3 h
 refine Zo (Zi (.bool (decide ((x2 : Int) < (Sl.len p_s1 : Int)))) (GL.nil (GC.seq (Yd h (fun u5 h => ?_) fun u5 h => ?_))))
 refine GC.skip (GC.seq (GC.block (Zo (Zm (Yx h fun p6 h => ?_)))))
 obtain ⟨x11, v12, h⟩ := h
 refine Zv (OV.loadT rfl rfl rfl v12) (GL.alloc (cs := Qg.c Qg.zero) h trivial rfl rfl rfl ?_)
 intro b13 H14 h
 refine Za (GL.storeT (p := (b13, 0)) (vs := Qg.c x11) h trivial rfl rfl rfl rfl ?_)
 intro H15 h
 refine GL.nil (Zo (Zm (Zm (Yx h fun p16 h => ?_))))
 obtain ⟨x21, v22, h⟩ := h
 refine Zv (OV.loadT rfl rfl rfl v22) (GL.alloc (cs := Qg.c Qg.zero) h trivial rfl rfl rfl ?_)
 intro b23 H24 h
 refine GL.storeT (p := (b23, 0)) (vs := Qg.c x21) h trivial rfl rfl rfl rfl ?_
 intro H25 h
 refine GL.nil (Zo (Zm ?_))
 obtain ⟨x26, v27, h⟩ := h
 refine Zv (OV.loadT rfl rfl rfl v27) ?_
 obtain ⟨x28, v29, h⟩ := h
 refine Zv (OV.loadT rfl rfl rfl v29) (GL.callU (xv := p_eq) (vs := [.agg (Qg.c x26).toArray, .agg (Qg.c x28).toArray]) h trivial rfl rfl rfl ?_)
 rintro _ H31 ⟨r30, rfl, h⟩
 refine Zv (OV.not rfl) (GL.nil (Yd h (fun u32 h => ?_) fun u32 h => ?_))
 refine Zo (Za (GL.nil ?_))
 exact Y1 I3 ⟨false, rfl, h⟩
 refine GC.skip_to (fun _ _ h => h) (GC.region (Zi (.int .i64 (w .i64 (x2 + 1))) (Zm ?_)))
 exact Yj I3 (w .i64 (x2 + 1)) h
 refine GC.exit_to (fun _ _ h => h) (Zo (Za (GL.nil ?_)))
 exact Y1 I3 ⟨true, rfl, h⟩
def Q2 (C : Ctx) (p_s1 : Sl) (p_s2 : Sl) (p_eq : Value) (K : Bool → Heap → Prop) (H : Heap) : Prop :=
 ift (((Sl.len p_s1 : Int) : Int) != (Sl.len p_s2 : Int))
 (K false H)
 (lp (α := Int) 0 H (fun x2 J3 H4 =>
 ift (decide ((x2 : Int) < (Sl.len p_s1 : Int)))
 (ixa p_s1 x2 fun p6 =>
 ldT H4 Qd.c (p6.1, p6.2 + (x2 : Int).toNat * 4) fun x11 =>
 nw (Qd.c Qd.zero) (fun b13 H14 =>
 stT (b13, 0) (Qd.c x11) (fun H15 =>
 ixa p_s2 x2 fun p16 =>
 ldT H15 Qd.c (p16.1, p16.2 + (x2 : Int).toNat * 4) fun x21 =>
 nw (Qd.c Qd.zero) (fun b23 H24 =>
 stT (b23, 0) (Qd.c x21) (fun H25 =>
 ldT H25 Qd.c (b13, 0) fun x26 =>
 ldT H25 Qd.c (b23, 0) fun x28 =>
 callU Tryz.prog C p_eq [.agg (Qd.c x26).toArray, .agg (Qd.c x28).toArray] H25 (fun v H31 => ∃ (r30 : Bool), v = .bool r30 ∧
 ift (!r30)
 (K false H31)
 (J3 (w .i64 (x2 + 1)) H31))) H24) H15) H14) H4)
 (K true H4)))
theorem Qa8 (C p_s1 p_s2 p_eq K H) (h : Q2 C p_s1 p_s2 p_eq K H) : Qz C p_s1 p_s2 p_eq K H := by
 refine Ye Tryz.func205 rfl Tryz.ntmps205 [(0, slv p_s1), (1, slv p_s2), (2, p_eq)] (Zo (Za (GL.nil (GC.seq (Zo (Zm (Zq (Zm (Zq (Zi (.bool (((Sl.len p_s1 : Int) : Int) != (Sl.len p_s2 : Int))) (GL.nil (Yd h (fun u1 h => ?_) fun u1 h => ?_))))))))))))
 refine Zo (Za (GL.nil ?_))
 exact Y1 I3 ⟨false, rfl, h⟩
 refine GC.skip (GC.seq (Zo (Zm (Zq (Zm (GL.nil (GC.block (Yp h (fun x2 => [(17, .int .i64 x2), (1, slv p_s2), (2, p_eq), (15, slv p_s1), (16, .int .i64 (Sl.len p_s1 : Int))]) ?_))))))))
 intro x2 H4 J3 h
 refine Zo (Zi (.bool (decide ((x2 : Int) < (Sl.len p_s1 : Int)))) (GL.nil (GC.seq (Yd h (fun u5 h => ?_) fun u5 h => ?_))))
 refine GC.skip (GC.seq (GC.block (Zo (Zm (Yx h fun p6 h => ?_)))))
 obtain ⟨x11, v12, h⟩ := h
 refine Zv (OV.loadT rfl rfl rfl v12) (GL.alloc (cs := Qd.c Qd.zero) h trivial rfl rfl rfl ?_)
 intro b13 H14 h
 refine Za (GL.storeT (p := (b13, 0)) (vs := Qd.c x11) h trivial rfl rfl rfl rfl ?_)
 intro H15 h
 refine GL.nil (Zo (Zm (Zm (Yx h fun p16 h => ?_))))
 obtain ⟨x21, v22, h⟩ := h
 refine Zv (OV.loadT rfl rfl rfl v22) (GL.alloc (cs := Qd.c Qd.zero) h trivial rfl rfl rfl ?_)
 intro b23 H24 h
 refine GL.storeT (p := (b23, 0)) (vs := Qd.c x21) h trivial rfl rfl rfl rfl ?_
 intro H25 h
 refine GL.nil (Zo (Zm ?_))
 obtain ⟨x26, v27, h⟩ := h
 refine Zv (OV.loadT rfl rfl rfl v27) ?_
 obtain ⟨x28, v29, h⟩ := h
 refine Zv (OV.loadT rfl rfl rfl v29) (GL.callU (xv := p_eq) (vs := [.agg (Qd.c x26).toArray, .agg (Qd.c x28).toArray]) h trivial rfl rfl rfl ?_)
 rintro _ H31 ⟨r30, rfl, h⟩
 refine Zv (OV.not rfl) (GL.nil (Yd h (fun u32 h => ?_) fun u32 h => ?_))
 refine Zo (Za (GL.nil ?_))
 exact Y1 I3 ⟨false, rfl, h⟩
 refine GC.skip_to (fun _ _ h => h) (GC.region (Zi (.int .i64 (w .i64 (x2 + 1))) (Zm ?_)))
 exact Yj I3 (w .i64 (x2 + 1)) h
 refine GC.exit_to (fun _ _ h => h) (Zo (Za (GL.nil ?_)))
 exact Y1 I3 ⟨true, rfl, h⟩
def Qkh (C : Ctx) (p_v : Qd) (K : Int → Heap → Prop) (H : Heap) : Prop :=
 nw (Qd.c p_v) (fun b1 H2 =>
 ldT H2 Qd.c (b1, 0) fun x3 =>
 QbD C x3 65 (fun r5 H6 =>
 ift (decide ((r5 : Int) > 64))
 (K 65 H6)
 (ldT H6 Qd.c (b1, 0) fun x8 =>
 Qam C x8 (fun r10 r11 H12 =>
 ift (!r10)
 (K 4 H12)
 (ift (!r11)
 (K 40 H12)
 (K 0 H12))) H6)) H2) H
theorem Qm0 (C p_v K H) (h : Qkh C p_v K H) : QbX C p_v K H := by
 refine Ye Tryz.func206 rfl Tryz.ntmps206 [(0, .agg (Qd.c p_v).toArray)] (Zo (GL.box (v := .agg (Qd.c p_v).toArray) (cs := Qd.c p_v) h trivial rfl rfl rfl ?_))
 intro b1 H2 h
 refine Za (GL.nil (GC.seq (Zo ?_)))
 obtain ⟨x3, v4, h⟩ := h
 refine Zv (OV.loadT rfl rfl rfl v4) (Zc h QjU ?_)
 rintro _ H6 ⟨r5, rfl, h⟩
 refine Zi (.bool (decide ((r5 : Int) > 64))) (GL.nil (Yd h (fun u7 h => ?_) fun u7 h => ?_))
 refine Zo (Za (GL.nil ?_))
 exact Y1 I3 ⟨65, rfl, h⟩
 refine GC.skip (GC.seq (Zo ?_))
 obtain ⟨x8, v9, h⟩ := h
 refine Zv (OV.loadT rfl rfl rfl v9) (Zc h QgQ ?_)
 rintro _ H12 ⟨r10, r11, rfl, h⟩
 refine Zm (Yv (.bool r10) rfl rfl (Yv (.bool r11) rfl rfl (Za (Za (GL.nil (GC.block (Zo (Zm (Zv (OV.not rfl) (Za (GL.nil (Yd h (fun u13 h => ?_) fun u13 h => ?_))))))))))))
 refine Zo (Za (GL.nil ?_))
 exact Y1 I3 ⟨4, rfl, h⟩
 refine Zo (Zm (Zv (OV.not rfl) (Za (GL.nil (Yd h (fun u14 h => ?_) fun u14 h => ?_)))))
 refine Zo (Za (GL.nil ?_))
 exact Y1 I3 ⟨40, rfl, h⟩
 refine GC.skip_to (fun _ _ h => h) (Zo (Za (GL.nil ?_)))
 exact Y1 I3 ⟨0, rfl, h⟩
def QkY (C : Ctx) (K : Option Nat → Heap → Prop) (H : Heap) : Prop :=
 mkM (fun b1 H2 =>
 upS sv (fun x : Int => (.int .i64 x : Value)) (some b1) [110, 111, 116] 1 (fun H3 =>
 upS sv (fun x : Int => (.int .i64 x : Value)) (some b1) [110, 101, 103] 1 (fun H4 =>
 upS sv (fun x : Int => (.int .i64 x : Value)) (some b1) [108, 101, 110] 1 (fun H5 =>
 upS sv (fun x : Int => (.int .i64 x : Value)) (some b1) [98, 105, 103] 1 (fun H6 =>
 upS sv (fun x : Int => (.int .i64 x : Value)) (some b1) [105, 110, 116] 1 (fun H7 =>
 nw ([sv [43], sv [45], sv [42], sv [47], sv [37], sv [43, 43], sv [61, 61], sv [33, 61], sv [60], sv [60, 61], sv [62], sv [62, 61], sv [97, 110, 100], sv [111, 114]]) (fun b8 H9 =>
 lp (α := Int) 0 H9 (fun x10 J11 H12 =>
 ift (decide ((x10 : Int) < (Sl.len (Sl.of (some (b8, 0)) 14 14) : Int)))
 (ixa (Sl.of (some (b8, 0)) 14 14) x10 fun p14 =>
 ldS H12 (p14.1, p14.2 + (x10 : Int).toNat * 1) fun x19 =>
 upS sv (fun x : Int => (.int .i64 x : Value)) (some b1) x19 2 (fun H21 =>
 J11 (w .i64 (x10 + 1)) H21) H12)
 (K (some b1) H12))) H7) H6) H5) H4) H3) H2) H
theorem QnA (C : Ctx) (K : Option Nat → Heap → Prop) (H : Heap) (h : QkY C  K H) : QiV C  K H := by
 refine Spec.enter Tryz.func207 rfl Tryz.ntmps207 rfl (GC.sub [] trivial (Zo (Za (GL.nil (Zo (GL.makeMap h trivial rfl ?_))))))
 intro b1 H2 h
 refine GL.insertS (ke := sv) (enc := (fun x : Int => (.int .i64 x : Value))) (q := (some b1)) (k := [110, 111, 116]) (x := 1) h trivial rfl rfl rfl rfl (kText rfl) ?_
 intro H3 h
 refine GL.insertS (ke := sv) (enc := (fun x : Int => (.int .i64 x : Value))) (q := (some b1)) (k := [110, 101, 103]) (x := 1) h trivial rfl rfl rfl rfl (kText rfl) ?_
 intro H4 h
 refine GL.insertS (ke := sv) (enc := (fun x : Int => (.int .i64 x : Value))) (q := (some b1)) (k := [108, 101, 110]) (x := 1) h trivial rfl rfl rfl rfl (kText rfl) ?_
 intro H5 h
 refine GL.insertS (ke := sv) (enc := (fun x : Int => (.int .i64 x : Value))) (q := (some b1)) (k := [98, 105, 103]) (x := 1) h trivial rfl rfl rfl rfl (kText rfl) ?_
 intro H6 h
 refine GL.insertS (ke := sv) (enc := (fun x : Int => (.int .i64 x : Value))) (q := (some b1)) (k := [105, 110, 116]) (x := 1) h trivial rfl rfl rfl rfl (kText rfl) ?_
 intro H7 h
 refine Zm (Za (GL.nil (GC.seq (Zo (GL.buildSlice (cs := [sv [43], sv [45], sv [42], sv [47], sv [37], sv [43, 43], sv [61, 61], sv [33, 61], sv [60], sv [60, 61], sv [62], sv [62, 61], sv [97, 110, 100], sv [111, 114]]) h trivial rfl (vs := [(0, sv [43]), (1, sv [45]), (2, sv [42]), (3, sv [47]), (4, sv [37]), (5, sv [43, 43]), (6, sv [61, 61]), (7, sv [33, 61]), (8, sv [60]), (9, sv [60, 61]), (10, sv [62]), (11, sv [62, 61]), (12, sv [97, 110, 100]), (13, sv [111, 114])]) rfl ⟨9, fun _ => by kernel_rfl⟩ ?_)))))
 intro b8 H9 h
 refine Zq (Zm (GL.nil (GC.block (Yp h (fun x10 => [(8, .int .i64 x10), (1, mv (some b1)), (6, slv (Sl.of (some (b8, 0)) 14 14)), (7, .int .i64 (Sl.len (Sl.of (some (b8, 0)) 14 14) : Int))]) ?_))))
 intro x10 H12 J11 h
 refine Zo (Zi (.bool (decide ((x10 : Int) < (Sl.len (Sl.of (some (b8, 0)) 14 14) : Int)))) (GL.nil (GC.seq (Yd h (fun u13 h => ?_) fun u13 h => ?_))))
 refine GC.skip (GC.seq (GC.block (Zo (Yx h fun p14 h => ?_))))
 refine Yl h fun x19 h => ?_
 refine Za (GL.nil (GC.region (Zm (Zm (GL.mapUpdateS (ke := sv) (enc := (fun x : Int => (.int .i64 x : Value))) (q := (some b1)) (k := x19) (x := 2) h trivial rfl rfl rfl rfl (kText rfl) ?_)))))
 intro H21 h
 refine GL.nil_to (fun _ _ h => h) (GC.region (Zi (.int .i64 (w .i64 (x10 + 1))) (Zm ?_)))
 exact Yj I3 (w .i64 (x10 + 1)) h
 refine GC.exit_to (fun _ _ h => h) (Zo (Zm (Za (GL.nil ?_))))
 exact Y1 I3 ⟨(some b1), rfl, h⟩
def Qlz (C : Ctx) (p_v : Qd) (K : Bool → Heap → Prop) (H : Heap) : Prop :=
 nw (Qd.c p_v) (fun b1 H2 =>
 ldI H2 .u8 ((b1, 0).1, (b1, 0).2 + 0) fun x3 =>
 jn (α := Bool) (fun b5 H11 =>
 jn (α := Bool) (fun b12 H18 =>
 jn (α := Bool) (fun b19 H25 =>
 K b19 H25)
 (fun J20 => ift b12
 (ldL H18 ((b1, 0).1, (b1, 0).2 + 3) fun x23 =>
 J20 (((Sl.len x23 : Int) : Int) == 0) H18)
 (J20 false H18)))
 (fun J13 => ift b5
 (ldS H11 ((b1, 0).1, (b1, 0).2 + 2) fun x16 =>
 J13 (x16 == ([] : Str)) H11)
 (J13 false H11)))
 (fun J6 => ift ((x3 : Int) == 0)
 (ldI H2 .i64 ((b1, 0).1, (b1, 0).2 + 1) fun x9 =>
 J6 ((x9 : Int) == 0) H2)
 (J6 false H2))) H
theorem Qoj (C p_v K H) (h : Qlz C p_v K H) : Qep C p_v K H := by
 refine Ye Tryz.func208 rfl Tryz.ntmps208 [(0, .agg (Qd.c p_v).toArray)] (Zo (GL.box (v := .agg (Qd.c p_v).toArray) (cs := Qd.c p_v) h trivial rfl rfl rfl ?_))
 intro b1 H2 h
 refine Za (GL.nil (Zo (Zf (Yl h fun x3 h => ?_))))
 refine Zi (.bool ((x3 : Int) == 0)) (Zm ?_)
 obtain ⟨J6, h, hR7⟩ := h
 refine GL.cut (α := Bool) 4 J6 (fun b5 => [(10, .bool b5), (1, pv (some (b1, 0)))]) ?_ ?_
 rcases h.em with ⟨u8, h⟩ | ⟨u8, h⟩
 refine Zu u8 Yf ?_
 obtain ⟨x9, v10, h⟩ := h
 refine Zu u8 (Yo v10) (Zu u8 (OV.ibin (v := .bool ((x9 : Int) == 0)) rfl rfl rfl) (Zt u8 ?_))
 exact Yj I3 ((x9 : Int) == 0) h
 refine Zk u8 (Zk u8 (Zk u8 (Zn u8 ?_)))
 exact Yj I3 false h
 intro b5 H11 h
 replace h := hR7 b5 H11 h
 refine Zm ?_
 obtain ⟨J13, h, hR14⟩ := h
 refine GL.cut (α := Bool) 4 J13 (fun b12 => [(15, .bool b12), (1, pv (some (b1, 0)))]) ?_ ?_
 rcases h.em with ⟨u15, h⟩ | ⟨u15, h⟩
 refine Zu u15 Yf ?_
 obtain ⟨x16, v17, h⟩ := h
 refine Zu u15 (Yo v17) (Zu u15 (OV.sbin (a := x16) (b := ([] : Str)) (v := .bool (x16 == ([] : Str))) rfl rfl rfl) (Zt u15 ?_))
 exact Yj I3 (x16 == ([] : Str)) h
 refine Zk u15 (Zk u15 (Zk u15 (Zn u15 ?_)))
 exact Yj I3 false h
 intro b12 H18 h
 replace h := hR14 b12 H18 h
 refine Zm ?_
 obtain ⟨J20, h, hR21⟩ := h
 refine GL.cut (α := Bool) 5 J20 (fun b19 => [(21, .bool b19)]) ?_ ?_
 rcases h.em with ⟨u22, h⟩ | ⟨u22, h⟩
 refine Zu u22 Yf ?_
 obtain ⟨x23, v24, h⟩ := h
 refine Zu u22 (Yo v24) (Zu u22 (OV.lenSl rfl rfl) (Zu u22 (OV.ibin (v := .bool (((Sl.len x23 : Int) : Int) == 0)) rfl rfl rfl) (Zt u22 ?_)))
 exact Yj I3 (((Sl.len x23 : Int) : Int) == 0) h
 refine Zk u22 (Zk u22 (Zk u22 (Zk u22 (Zn u22 ?_))))
 exact Yj I3 false h
 intro b19 H25 h
 replace h := hR21 b19 H25 h
 refine Za (GL.nil ?_)
 exact Y1 I3 ⟨b19, rfl, h⟩
def Qkf (C : Ctx) (p_x : Qa) (v0 : Nat × Nat) (K : Bool → Heap → Prop) (H : Heap) : Prop :=
 nw (Qa.c p_x) (fun b1 H2 =>
 ldT H2 Qa.c (b1, 0) fun x3 =>
 ldB H2 v0 fun x5 =>
 QcF C x3 x5 (fun r7 H8 =>
 K r7 H8) H2) H
theorem QmY (C p_x v0 K H) (h : Qkf C p_x v0 K H) : QdO C p_x v0 K H := by
 refine Ye Tryz.func209 rfl Tryz.ntmps209 [(0, .agg (Qa.c p_x).toArray), (1, pv (some v0))] (Zo (GL.box (v := .agg (Qa.c p_x).toArray) (cs := Qa.c p_x) h trivial rfl rfl rfl ?_))
 intro b1 H2 h
 refine Za (GL.nil (Zo ?_))
 obtain ⟨x3, hr4, h⟩ := h
 refine Zv (OV.loadT rfl rfl rfl hr4) (Yl h fun x5 h => ?_)
 refine Zc h Qi6 ?_
 rintro _ H8 ⟨r7, rfl, h⟩
 refine Za (GL.nil ?_)
 exact Y1 I3 ⟨r7, rfl, h⟩
def Qjo (C : Ctx) (p_l : Sl) (v0 : Nat × Nat) (v1 : Nat × Nat) (K : Heap → Prop) (H : Heap) : Prop :=
 Qo C (some v0) 40 (fun r1 H2 =>
 lp (α := Int) 0 H2 (fun x3 J4 H5 =>
 ift (decide ((x3 : Int) < (Sl.len p_l : Int)))
 (ixa p_l x3 fun p7 =>
 ldT H5 Qd.c (p7.1, p7.2 + (x3 : Int).toNat * 4) fun x12 =>
 nw (Qd.c Qd.zero) (fun b14 H15 =>
 stT (b14, 0) (Qd.c x12) (fun H16 =>
 jn (α := Unit) (fun x18 H19 =>
 ldV H19 v1 fun x25 =>
 ldT H19 Qd.c (b14, 0) fun x27 =>
 callU Tryz.prog C x25 [.agg (Qd.c x27).toArray] H19 (fun v H29 => v = .tuple #[] ∧
 J4 (w .i64 (x3 + 1)) H29))
 (fun J17 => ift (decide ((x3 : Int) > 0))
 (Qm C (some v0) [44, 32] (fun r22 r23 H24 =>
 J17 () H24) H16)
 (J17 () H16))) H15) H5)
 (Qo C (some v0) 41 (fun r30 H31 =>
 K H31) H5))) H
theorem Ql4 (C p_l v0 v1 K H) (h : Qjo C p_l v0 v1 K H) : Qg8 C p_l v0 v1 K H := by
 refine Ye Tryz.func210 rfl Tryz.ntmps210 [(0, slv p_l), (1, pv (some v0)), (2, pv (some v1))] (Zo (Zc h Qq ?_))
 rintro _ H2 ⟨r1, rfl, h⟩
 refine GL.nil (GC.seq (Zo (Zm (Zq (Zm (GL.nil (GC.block (Yp h (fun x3 => [(9, .int .i64 x3), (1, pv (some v0)), (2, pv (some v1)), (7, slv p_l), (8, .int .i64 (Sl.len p_l : Int))]) ?_))))))))
 intro x3 H5 J4 h
 refine Zo (Zi (.bool (decide ((x3 : Int) < (Sl.len p_l : Int)))) (GL.nil (GC.seq (Yd h (fun u6 h => ?_) fun u6 h => ?_))))
 refine GC.skip (GC.seq (GC.block (Zo (Zm (Yx h fun p7 h => ?_)))))
 obtain ⟨x12, hr13, h⟩ := h
 refine Zv (OV.loadT rfl rfl rfl hr13) (GL.alloc (cs := Qd.c Qd.zero) h trivial rfl rfl rfl ?_)
 intro b14 H15 h
 refine Za (GL.storeT (p := (b14, 0)) (vs := Qd.c x12) h trivial rfl rfl rfl rfl ?_)
 intro H16 h
 refine GL.nil ?_
 obtain ⟨J17, h, hR20⟩ := h
 refine GC.join (α := Unit) J17 (fun _ => [(1, pv (some v0)), (2, pv (some v1)), (5, pv (some (b14, 0))), (7, slv p_l), (8, .int .i64 (Sl.len p_l : Int)), (9, .int .i64 x3)]) ?_ ?_
 refine Zo (Zm (Zi (.bool (decide ((x3 : Int) > 0))) (GL.nil (Yd h (fun u21 h => ?_) fun u21 h => ?_))))
 refine GC.region (Zc h Qn ?_)
 rintro _ H24 ⟨r22, r23, rfl, h⟩
 exact Yj I3 () h
 exact Yk I3 () h
 intro x18 H19 h
 replace h := hR20 x18 H19 h
 refine GC.region (Yl h fun x25 h => ?_)
 obtain ⟨x27, hr28, h⟩ := h
 refine Zv (OV.loadT rfl rfl rfl hr28) (GL.callU (xv := x25) (vs := [.agg (Qd.c x27).toArray]) h trivial rfl rfl rfl ?_)
 rintro _ H29 ⟨rfl, h⟩
 refine GL.nil_to (fun _ _ h => h) (GC.region (Zi (.int .i64 (w .i64 (x3 + 1))) (Zm ?_)))
 exact Yj I3 (w .i64 (x3 + 1)) h
 refine GC.exit_to (fun _ _ h => h) (GC.region (Zc h Qq ?_))
 rintro _ H31 ⟨r30, rfl, h⟩
 exact GL.ends (fun _ _ hf hs => QC rfl hf hs ⟨rfl, h⟩)
def Qjp (C : Ctx) (p_v : Qd) (v0 : Nat × Nat) (v1 : Nat × Nat) (K : Heap → Prop) (H : Heap) : Prop :=
 nw (Qd.c p_v) (fun b1 H2 =>
 ldI H2 .u8 ((b1, 0).1, (b1, 0).2 + 0) fun x3 =>
 ift ((x3 : Int) == 1)
 (ldI H2 .i64 ((b1, 0).1, (b1, 0).2 + 1) fun x6 =>
 QdW C ((x6 : Int) == 1) (fun r8 H9 =>
 Qm C (some v0) r8 (fun r10 r11 H12 =>
 K H12) H9) H2)
 (ift ((x3 : Int) == 2)
 (ldI H2 .i64 ((b1, 0).1, (b1, 0).2 + 1) fun x14 =>
 Qgj C x14 10 (fun r16 H17 =>
 Qm C (some v0) r16 (fun r18 r19 H20 =>
 K H20) H17) H2)
 (ift ((x3 : Int) == 3)
 (ldS H2 ((b1, 0).1, (b1, 0).2 + 2) fun x22 =>
 Qm C (some v0) x22 (fun r24 r25 H26 =>
 Qo C (some v0) 98 (fun r27 H28 =>
 K H28) H26) H2)
 (ift ((x3 : Int) == 4)
 (ldS H2 ((b1, 0).1, (b1, 0).2 + 2) fun x30 =>
 Qh2 C (some v0) x30 (fun H32 =>
 K H32) H2)
 (ift ((x3 : Int) == 5)
 (ldV H2 v1 fun x34 =>
 ldL H2 ((b1, 0).1, (b1, 0).2 + 3) fun x36 =>
 callU Tryz.prog C x34 [slv x36] H2 (fun v H38 => v = .tuple #[] ∧
 K H38))
 (ldS H2 ((b1, 0).1, (b1, 0).2 + 2) fun x39 =>
 Qm C (some v0) x39 (fun r41 r42 H43 =>
 ldL H43 ((b1, 0).1, (b1, 0).2 + 3) fun x44 =>
 ift (decide (((Sl.len x44 : Int) : Int) > 0))
 (ldV H43 v1 fun x47 =>
 ldL H43 ((b1, 0).1, (b1, 0).2 + 3) fun x49 =>
 callU Tryz.prog C x47 [slv x49] H43 (fun v H51 => v = .tuple #[] ∧
 K H51))
 (K H43)) H2)))))) H
theorem Ql5 (C p_v v0 v1 K H) (h : Qjp C p_v v0 v1 K H) : Qd8 C p_v v0 v1 K H := by
 refine Ye Tryz.func211 rfl Tryz.ntmps211 [(0, .agg (Qd.c p_v).toArray), (1, pv (some v0)), (2, pv (some v1))] (Zo (GL.box (v := .agg (Qd.c p_v).toArray) (cs := Qd.c p_v) h trivial rfl rfl rfl ?_))
 intro b1 H2 h
 refine GL.nil (Zo (Zf (Yl h fun x3 h => ?_)))
 refine GL.nil (GC.block (Zo (Zi (.bool ((x3 : Int) == 1)) (Za (GL.nil (Yd h (fun u5 h => ?_) fun u5 h => ?_))))))
 refine GC.region (Zf (Yl h fun x6 h => ?_))
 refine Zi (.bool ((x6 : Int) == 1)) (Zc h Qi3 ?_)
 rintro _ H9 ⟨r8, rfl, h⟩
 refine Zc h Qn ?_
 rintro _ H12 ⟨r10, r11, rfl, h⟩
 exact GL.ends (fun _ _ hf hs => QC rfl hf hs ⟨rfl, h⟩)
 refine Zo (Zi (.bool ((x3 : Int) == 2)) (Za (GL.nil (Yd h (fun u13 h => ?_) fun u13 h => ?_))))
 refine GC.region (Zf (Yl h fun x14 h => ?_))
 refine Zc h QjE ?_
 rintro _ H17 ⟨r16, rfl, h⟩
 refine Zc h Qn ?_
 rintro _ H20 ⟨r18, r19, rfl, h⟩
 exact GL.ends (fun _ _ hf hs => QC rfl hf hs ⟨rfl, h⟩)
 refine Zo (Zi (.bool ((x3 : Int) == 3)) (Za (GL.nil (Yd h (fun u21 h => ?_) fun u21 h => ?_))))
 refine Zo (Zf (Yl h fun x22 h => ?_))
 refine Zc h Qn ?_
 rintro _ H26 ⟨r24, r25, rfl, h⟩
 refine GL.nil (GC.region (Zc h Qq ?_))
 rintro _ H28 ⟨r27, rfl, h⟩
 exact GL.ends (fun _ _ hf hs => QC rfl hf hs ⟨rfl, h⟩)
 refine Zo (Zi (.bool ((x3 : Int) == 4)) (Za (GL.nil (Yd h (fun u29 h => ?_) fun u29 h => ?_))))
 refine GC.region (Zf (Yl h fun x30 h => ?_))
 refine Zc h Qng ?_
 rintro _ H32 ⟨rfl, h⟩
 exact GL.ends (fun _ _ hf hs => QC rfl hf hs ⟨rfl, h⟩)
 refine Zo (Zi (.bool ((x3 : Int) == 5)) (Za (GL.nil (Yd h (fun u33 h => ?_) fun u33 h => ?_))))
 refine GC.region (Yl h fun x34 h => ?_)
 refine Zf (Yl h fun x36 h => ?_)
 refine GL.callU (xv := x34) (vs := [slv x36]) h trivial rfl rfl rfl ?_
 rintro _ H38 ⟨rfl, h⟩
 exact GL.ends (fun _ _ hf hs => QC rfl hf hs ⟨rfl, h⟩)
 refine Zo (Zf (Yl h fun x39 h => ?_))
 refine Zc h Qn ?_
 rintro _ H43 ⟨r41, r42, rfl, h⟩
 refine GL.nil (Zo (Zf (Yl h fun x44 h => ?_)))
 refine Zq (Zi (.bool (decide (((Sl.len x44 : Int) : Int) > 0))) (GL.nil (Yd h (fun u46 h => ?_) fun u46 h => ?_)))
 refine GC.region (Yl h fun x47 h => ?_)
 refine Zf (Yl h fun x49 h => ?_)
 refine GL.callU (xv := x47) (vs := [slv x49]) h trivial rfl rfl rfl ?_
 rintro _ H51 ⟨rfl, h⟩
 exact GL.ends (fun _ _ hf hs => QC rfl hf hs ⟨rfl, h⟩)
 exact GC.ends (fun _ _ hf hs => QC rfl hf hs ⟨rfl, h⟩)
def QfE (C : Ctx) (p_b : Bool) (K : Str → Heap → Prop) (H : Heap) : Prop :=
 QcN C p_b (fun r1 H2 =>
 K r1 H2) H
theorem QiO (C p_b K H) (h : QfE C p_b K H) : QdW C p_b K H := by
 refine Ye Tryz.func212 rfl Tryz.ntmps212 [(0, .bool p_b)] (Zo (Za (GL.nil (Zo (Zm (Zc h QfB ?_))))))
 rintro _ H2 ⟨r1, rfl, h⟩
 refine Za (GL.nil ?_)
 exact Y1 I3 ⟨r1, rfl, h⟩
def Qkj (C : Ctx) (p_b : Option (Nat × Nat)) (p_s : Str) (K : Heap → Prop) (H : Heap) : Prop :=
 Qo C p_b 34 (fun r1 H2 =>
 lp (α := Int) 0 H2 (fun x3 J4 H5 =>
 ift (decide ((x3 : Int) < (List.length p_s : Int)))
 (jn (α := Unit) (fun x8 H9 =>
 J4 (w .i64 (x3 + 1)) H9)
 (fun J7 => ixs p_s x3 fun c11 =>
 ift ((((c11.toNat : Int) : Int) == 34) || (((c11.toNat : Int) : Int) == 92))
 (Qo C p_b 92 (fun r16 H17 =>
 Qo C p_b (c11.toNat : Int) (fun r18 H19 =>
 J7 () H19) H17) H5)
 (ift (((c11.toNat : Int) : Int) == 10)
 (Qm C p_b [92, 110] (fun r21 r22 H23 =>
 J7 () H23) H5)
 (ift (((c11.toNat : Int) : Int) == 9)
 (Qm C p_b [92, 116] (fun r25 r26 H27 =>
 J7 () H27) H5)
 (ift ((decide (((c11.toNat : Int) : Int) ≥ 32)) && (decide (((c11.toNat : Int) : Int) ≤ 126)))
 (Qo C p_b (c11.toNat : Int) (fun r30 H31 =>
 J7 () H31) H5)
 (Qm C p_b [92, 120] (fun r32 r33 H34 =>
 ixs [48, 49, 50, 51, 52, 53, 54, 55, 56, 57, 97, 98, 99, 100, 101, 102] (sShr .u8 (c11.toNat : Int) 4) fun c35 =>
 Qo C p_b (c35.toNat : Int) (fun r38 H39 =>
 ixs [48, 49, 50, 51, 52, 53, 54, 55, 56, 57, 97, 98, 99, 100, 101, 102] (bAnd .u8 (c11.toNat : Int) 15) fun c40 =>
 Qo C p_b (c40.toNat : Int) (fun r43 H44 =>
 J7 () H44) H39) H34) H5))))))
 (Qo C p_b 34 (fun r45 H46 =>
 K H46) H5))) H
theorem Qm2 (C p_b p_s K H) (h : Qkj C p_b p_s K H) : Qh2 C p_b p_s K H := by
 refine Ye Tryz.func214 rfl Tryz.ntmps214 [(0, pv p_b), (1, sv p_s)] (Zo (Zm (Zc h Qq ?_)))
 rintro _ H2 ⟨r1, rfl, h⟩
 refine GL.nil (GC.seq (Zo (Zm (Zr (Zm (GL.nil (GC.block (Yp h (fun x3 => [(10, .int .i64 x3), (0, pv p_b), (1, sv p_s), (9, .int .i64 (List.length p_s : Int))]) ?_))))))))
 intro x3 H5 J4 h
 refine Zo (Zi (.bool (decide ((x3 : Int) < (List.length p_s : Int)))) (GL.nil (GC.seq (Yd h (fun hc6 h => ?_) fun hc6 h => ?_))))
 refine GC.skip ?_
 obtain ⟨J7, h, hR10⟩ := h
 refine GC.join (α := Unit) J7 (fun _ => [(0, pv p_b), (1, sv p_s), (9, .int .i64 (List.length p_s : Int)), (10, .int .i64 x3)]) ?_ ?_
 refine GC.block (Zo (Zm (Za (GL.nil (Zo (Zm (Zm (Ys h fun c11 h => ?_))))))))
 refine Za (GL.nil (GC.block (Zo (Zm (Zi (.bool (((c11.toNat : Int) : Int) == 34)) (Zm (GL.cut0 3 [(34, .bool ((((c11.toNat : Int) : Int) == 34) || (((c11.toNat : Int) : Int) == 92))), (0, pv p_b), (1, sv p_s), (5, .int .u8 (c11.toNat : Int)), (9, .int .i64 (List.length p_s : Int)), (10, .int .i64 x3)] ?_ ?_)))))))
 rcases Zb (((c11.toNat : Int) : Int) == 34) with hc14 | hc14
 refine Zk hc14 (Zk hc14 (Zt hc14 ?_))
 exact GL.jump0 (fun _ _ h => h) () rfl ⟨(by rw [hc14]; rfl), rfl, rfl, rfl, rfl, rfl, trivial⟩
 refine Zu hc14 Ym (Zu hc14 (OV.ibin (v := .bool (((c11.toNat : Int) : Int) == 92)) rfl rfl rfl) (Zn hc14 ?_))
 exact GL.jump0 (fun _ _ h => h) () rfl ⟨(by rw [hc14]; rfl), rfl, rfl, rfl, rfl, rfl, trivial⟩
 refine Za (GL.nil (Yd h (fun hc15 h => ?_) fun hc15 h => ?_))
 refine Zo (Zm (Zc h Qq ?_))
 rintro _ H17 ⟨r16, rfl, h⟩
 refine GL.nil (GC.region (Zm (Zm (Zc h Qq ?_))))
 rintro _ H19 ⟨r18, rfl, h⟩
 exact Yj I3 () h
 refine Zo (Zm (Zi (.bool (((c11.toNat : Int) : Int) == 10)) (Za (GL.nil (Yd h (fun hc20 h => ?_) fun hc20 h => ?_)))))
 refine GC.region (Zm (Zc h Qn ?_))
 rintro _ H23 ⟨r21, r22, rfl, h⟩
 exact Yj I3 () h
 refine Zo (Zm (Zi (.bool (((c11.toNat : Int) : Int) == 9)) (Za (GL.nil (Yd h (fun hc24 h => ?_) fun hc24 h => ?_)))))
 refine GC.region (Zm (Zc h Qn ?_))
 rintro _ H27 ⟨r25, r26, rfl, h⟩
 exact Yj I3 () h
 refine Zo (Zm (Zi (.bool (decide (((c11.toNat : Int) : Int) ≥ 32))) (Zm (GL.cut0 3 [(56, .bool ((decide (((c11.toNat : Int) : Int) ≥ 32)) && (decide (((c11.toNat : Int) : Int) ≤ 126)))), (0, pv p_b), (1, sv p_s), (5, .int .u8 (c11.toNat : Int)), (9, .int .i64 (List.length p_s : Int)), (10, .int .i64 x3)] ?_ ?_))))
 rcases Zb (decide (((c11.toNat : Int) : Int) ≥ 32)) with hc28 | hc28
 refine Zu hc28 Ym (Zu hc28 (OV.ibin (v := .bool (decide (((c11.toNat : Int) : Int) ≤ 126))) rfl rfl rfl) (Zt hc28 ?_))
 exact GL.jump0 (fun _ _ h => h) () rfl ⟨(by rw [hc28]; rfl), rfl, rfl, rfl, rfl, rfl, trivial⟩
 refine Zk hc28 (Zk hc28 (Zn hc28 ?_))
 exact GL.jump0 (fun _ _ h => h) () rfl ⟨(by rw [hc28]; rfl), rfl, rfl, rfl, rfl, rfl, trivial⟩
 refine Za (GL.nil (Yd h (fun hc29 h => ?_) fun hc29 h => ?_))
 refine GC.region (Zm (Zm (Zc h Qq ?_)))
 rintro _ H31 ⟨r30, rfl, h⟩
 exact Yj I3 () h
 refine Zo (Zm (Zc h Qn ?_))
 rintro _ H34 ⟨r32, r33, rfl, h⟩
 refine GL.nil (Zo (Zm (Zm (Zv (OV.shr rfl rfl (by decide)) (Ys h fun c35 h => ?_)))))
 refine Zc h Qq ?_
 rintro _ H39 ⟨r38, rfl, h⟩
 refine GL.nil (GC.region (Zm (Zm (Zi (.int .u8 (bAnd .u8 (c11.toNat : Int) 15)) (Ys h fun c40 h => ?_)))))
 refine Zc h Qq ?_
 rintro _ H44 ⟨r43, rfl, h⟩
 exact Yj I3 () h
 intro x8 H9 h
 replace h := hR10 x8 H9 h
 refine GC.region (Zi (.int .i64 (w .i64 (x3 + 1))) (Zm ?_))
 exact Yj I3 (w .i64 (x3 + 1)) h
 refine GC.exit_to (fun _ _ h => h) (GC.region (Zm (Zc h Qq ?_)))
 rintro _ H46 ⟨r45, rfl, h⟩
 exact GL.ends (fun _ _ hf hs => QC rfl hf hs ⟨rfl, h⟩)
def Qis (C : Ctx) (p_s : Str) (K : Bool → Heap → Prop) (H : Heap) : Prop :=
 K ((((p_s == ([110, 101, 103] : Str)) || (p_s == ([108, 101, 110] : Str))) || (p_s == ([98, 105, 103] : Str))) || (p_s == ([105, 110, 116] : Str))) H
theorem QlG (C p_s K H) (h : Qis C p_s K H) : QeT C p_s K H := by
 refine Ye Tryz.func215 rfl Tryz.ntmps215 [(0, sv p_s)] (Zo (Za (GL.nil (Zo (Zm (Zv (OV.sbin (a := p_s) (b := ([110, 101, 103] : Str)) (v := .bool (p_s == ([110, 101, 103] : Str))) rfl rfl rfl) (Zm (GL.cut0 3 [(8, .bool ((p_s == ([110, 101, 103] : Str)) || (p_s == ([108, 101, 110] : Str)))), (0, sv p_s)] ?_ ?_))))))))
 rcases Zb (p_s == ([110, 101, 103] : Str)) with u1 | u1
 refine Zk u1 (Zk u1 (Zt u1 ?_))
 exact GL.jump0 (fun _ _ h => h) () rfl ⟨(by rw [u1]; rfl), rfl, trivial⟩
 refine Zu u1 Ym (Zu u1 (OV.sbin (a := p_s) (b := ([108, 101, 110] : Str)) (v := .bool (p_s == ([108, 101, 110] : Str))) rfl rfl rfl) (Zn u1 ?_))
 exact GL.jump0 (fun _ _ h => h) () rfl ⟨(by rw [u1]; rfl), rfl, trivial⟩
 refine Zm (GL.cut0 3 [(12, .bool (((p_s == ([110, 101, 103] : Str)) || (p_s == ([108, 101, 110] : Str))) || (p_s == ([98, 105, 103] : Str)))), (0, sv p_s)] ?_ ?_)
 rcases Zb ((p_s == ([110, 101, 103] : Str)) || (p_s == ([108, 101, 110] : Str))) with u2 | u2
 refine Zk u2 (Zk u2 (Zt u2 ?_))
 exact GL.jump0 (fun _ _ h => h) () rfl ⟨(by rw [u2]; rfl), rfl, trivial⟩
 refine Zu u2 Ym (Zu u2 (OV.sbin (a := p_s) (b := ([98, 105, 103] : Str)) (v := .bool (p_s == ([98, 105, 103] : Str))) rfl rfl rfl) (Zn u2 ?_))
 exact GL.jump0 (fun _ _ h => h) () rfl ⟨(by rw [u2]; rfl), rfl, trivial⟩
 refine Zm (GL.cut0 3 [(16, .bool ((((p_s == ([110, 101, 103] : Str)) || (p_s == ([108, 101, 110] : Str))) || (p_s == ([98, 105, 103] : Str))) || (p_s == ([105, 110, 116] : Str))))] ?_ ?_)
 rcases Zb (((p_s == ([110, 101, 103] : Str)) || (p_s == ([108, 101, 110] : Str))) || (p_s == ([98, 105, 103] : Str))) with u3 | u3
 refine Zk u3 (Zk u3 (Zt u3 ?_))
 exact GL.jump0 (fun _ _ h => h) () rfl ⟨(by rw [u3]; rfl), trivial⟩
 refine Zu u3 Ym (Zu u3 (OV.sbin (a := p_s) (b := ([105, 110, 116] : Str)) (v := .bool (p_s == ([105, 110, 116] : Str))) rfl rfl rfl) (Zn u3 ?_))
 exact GL.jump0 (fun _ _ h => h) () rfl ⟨(by rw [u3]; rfl), trivial⟩
 refine Za (GL.nil ?_)
 exact Y1 I3 ⟨((((p_s == ([110, 101, 103] : Str)) || (p_s == ([108, 101, 110] : Str))) || (p_s == ([98, 105, 103] : Str))) || (p_s == ([105, 110, 116] : Str))), rfl, h⟩
def Qeh (C : Ctx) (p_w : Option (Nat × Nat)) (p_l : Sl) (p_write : Value) (K : Heap → Prop) (H : Heap) : Prop :=
 nck p_w fun p1 =>
 Qo C (some (p1.1, p1.2 + 0)) 40 (fun r3 H4 =>
 QdZ C p_w p_l [44, 32] p_write (fun H5 =>
 nck p_w fun p6 =>
 Qo C (some (p6.1, p6.2 + 0)) 41 (fun r8 H9 =>
 K H9) H5) H4) H
theorem Qg3 (C p_w p_l p_write K H) (h : Qeh C p_w p_l p_write K H) : Qck C p_w p_l p_write K H := by
 refine Ye Tryz.func216 rfl Tryz.ntmps216 [(0, pv p_w), (1, slv p_l), (2, p_write)] (Zo (Zm ?_))
 obtain ⟨p1, hp2, h⟩ := h
 refine Zv (OV.nilCheck (q := p_w) rfl hp2) (Zf (Zc h Qq ?_))
 rintro _ H4 ⟨r3, rfl, h⟩
 refine GL.nil (Zo (Zm (Zm (Zm (Zc h Qi8 ?_)))))
 rintro _ H5 ⟨rfl, h⟩
 refine GL.nil (GC.region (Zm ?_))
 obtain ⟨p6, hp7, h⟩ := h
 refine Zv (OV.nilCheck (q := p_w) rfl hp7) (Zf (Zc h Qq ?_))
 rintro _ H9 ⟨r8, rfl, h⟩
 exact GL.ends (fun _ _ hf hs => QC rfl hf hs ⟨rfl, h⟩)
def QeE (C : Ctx) (p_l : Sl) (p_depth : Value) (K : Int → Heap → Prop) (H : Heap) : Prop :=
 lp (α := Int × Int) (0, 0) H (fun x1 J2 H3 =>
 ift (decide ((x1.2 : Int) < (Sl.len p_l : Int)))
 (ixa p_l x1.2 fun p5 =>
 ldT H3 Qg.c (p5.1, p5.2 + (x1.2 : Int).toNat * 2) fun x10 =>
 nw (Qg.c Qg.zero) (fun b12 H13 =>
 stT (b12, 0) (Qg.c x10) (fun H14 =>
 ldT H14 Qg.c (b12, 0) fun x15 =>
 callU Tryz.prog C p_depth [.agg (Qg.c x15).toArray] H14 (fun v H18 => ∃ (r17 : Int), v = .int .i64 r17 ∧
 J2 ((if r17 > x1.1 then r17 else x1.1 : Int), (w .i64 (x1.2 + 1))) H18)) H13) H3)
 (K x1.1 H3))
theorem Qhr (C p_l p_depth K H) (h : QeE C p_l p_depth K H) : Q6 C p_l p_depth K H := by
 refine Ye Tryz.func218 rfl Tryz.ntmps218 [(0, slv p_l), (1, p_depth)] (Zo (Za (GL.nil (Zo (Za (GL.nil (GC.seq (Zo (Zm (Zq (Zm (GL.nil (GC.block (Yp h (fun x1 => [(5, .int .i64 x1.1), (10, .int .i64 x1.2), (1, p_depth), (8, slv p_l), (9, .int .i64 (Sl.len p_l : Int))]) ?_))))))))))))))
 intro x1 H3 J2 h
 refine Zo (Zi (.bool (decide ((x1.2 : Int) < (Sl.len p_l : Int)))) (GL.nil (GC.seq (Yd h (fun u4 h => ?_) fun u4 h => ?_))))
 refine GC.skip (GC.seq (GC.block (Zo (Yx h fun p5 h => ?_))))
 obtain ⟨x10, v11, h⟩ := h
 refine Zv (OV.loadT rfl rfl rfl v11) (GL.alloc (cs := Qg.c Qg.zero) h trivial rfl rfl rfl ?_)
 intro b12 H13 h
 refine GL.storeT (p := (b12, 0)) (vs := Qg.c x10) h trivial rfl rfl rfl rfl ?_
 intro H14 h
 refine GL.nil (GC.region (Zm (Zm ?_)))
 obtain ⟨x15, v16, h⟩ := h
 refine Zv (OV.loadT rfl rfl rfl v16) (GL.callU (xv := p_depth) (vs := [.agg (Qg.c x15).toArray]) h trivial rfl rfl rfl ?_)
 rintro _ H18 ⟨r17, rfl, h⟩
 refine Zv (OV.maxI rfl rfl) (Za (GL.nil_to (fun _ _ h => h) (GC.region (Zi (.int .i64 (w .i64 (x1.2 + 1))) (Zm ?_)))))
 exact Yj I3 ((if r17 > x1.1 then r17 else x1.1 : Int), (w .i64 (x1.2 + 1))) h
 refine GC.exit_to (fun _ _ h => h) (Zo (Zm (Za (GL.nil ?_))))
 exact Y1 I3 ⟨x1.1, rfl, h⟩
end
end Sx
end
