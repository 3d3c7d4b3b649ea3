/-
  Texts of this family, one behind the other: Sh3.
-/
import Derived.Test.YtnomkabppjlbfaaGreatDoorAT2
noncomputable section
set_option linter.unusedVariables false
set_option linter.unusedSimpArgs false
set_option maxRecDepth 10000
namespace Sx
section
set_option maxRecDepth 100000
open Go Go.Proofs
def QlX (C : Ctx) (p_m : Qi) (K : Int → Heap → Prop) (H : Heap) : Prop :=
 nw (Qi.c p_m) (fun b1 H2 =>
 dr H2 fun Hs3 =>
 ldL Hs3 ((b1, 0).1, (b1, 0).2 + 2) fun x5 =>
 ldL Hs3 ((b1, 0).1, (b1, 0).2 + 3) fun x7 =>
 ldL Hs3 ((b1, 0).1, (b1, 0).2 + 4) fun x9 =>
 ldL Hs3 ((b1, 0).1, (b1, 0).2 + 5) fun x11 =>
 QV C x5 (.func (.func 114) (List.toArray []) (List.toArray []) : Value) (fun r14 H15 =>
 Heap.le Hs3 H15 ∧
 QY C x7 (.func (.func 120) (List.toArray []) (List.toArray []) : Value) (fun r17 H18 =>
 Heap.le Hs3 H18 ∧
 Q7 C x9 (.func (.func 122) (List.toArray []) (List.toArray []) : Value) (fun r20 H21 =>
 Heap.le Hs3 H21 ∧
 Q1 C x11 (.func (.func 127) (List.toArray []) (List.toArray []) : Value) (fun r23 H24 =>
 Heap.le Hs3 H24 ∧
 K (max4 r14 r17 r20 r23) H24) H21) H18) H15) H2) H
theorem QoY (C p_m K H) (h : QlX C p_m K H) : Qer C p_m K H := by
 refine Ye Tryz.func45 rfl Tryz.ntmps45 [(0, .agg (Qi.c p_m).toArray)] (Zo (GL.box (v := .agg (Qi.c p_m).toArray) (cs := Qi.c p_m) h trivial rfl rfl rfl ?_))
 intro b1 H2 h
 refine Za (GL.nil (GC.seq ?_))
 obtain ⟨Hs3, hle4, h⟩ := h
 refine GC.any (Hs := Hs3) (by kernel_rfl) hle4 (Zp 0 rfl Yf ?_)
 obtain ⟨x5, v6, h⟩ := h
 refine Zp 1 rfl (Yo v6) (Zp 3 rfl Yf ?_)
 obtain ⟨x7, v8, h⟩ := h
 refine Zp 4 rfl (Yo v8) (Zp 6 rfl Yf ?_)
 obtain ⟨x9, v10, h⟩ := h
 refine Zp 7 rfl (Yo v10) (Zp 9 rfl Yf ?_)
 obtain ⟨x11, v12, h⟩ := h
 refine Zp 10 rfl (Yo v12) (GA.eff 2 rfl (by kernel_rfl) (Zc h QgA ?_))
 rintro _ H15 ⟨r14, rfl, h⟩
 obtain ⟨hle13, h⟩ := h
 refine GA.back hle13 (GA.eff 5 rfl (by kernel_rfl) (Zc h QgQ ?_))
 rintro _ H18 ⟨r17, rfl, h⟩
 obtain ⟨hle16, h⟩ := h
 refine GA.back hle16 (GA.eff 8 rfl (by kernel_rfl) (Zc h QhQ ?_))
 rintro _ H21 ⟨r20, rfl, h⟩
 obtain ⟨hle19, h⟩ := h
 refine GA.back hle19 (GA.eff 11 rfl (by kernel_rfl) (Zc h Qhs ?_))
 rintro _ H24 ⟨r23, rfl, h⟩
 obtain ⟨hle22, h⟩ := h
 refine GA.back hle22 (Zp 12 rfl (OV.max4 rfl rfl rfl rfl) (Zp 13 rfl Ya (GA.done (by kernel_rfl) (GL.nil ?_))))
 exact Y1 I3 ⟨(max4 r14 r17 r20 r23), rfl, h⟩
def Ql1 (C : Ctx) (p_s : Str) (K : Bool → Heap → Prop) (H : Heap) : Prop :=
 jn (α := Bool) (fun b1 H8 =>
 jn (α := Bool) (fun b9 H16 =>
 jn (α := Bool) (fun b17 H23 =>
 jn (α := Bool) (fun b24 H32 =>
 K b24 H32)
 (fun J25 => ift b17
 (catOk ([32] : Str) p_s ∧
 catOk (([32] : Str) ++ p_s) ([32] : Str) ∧
 QgR C [32, 109, 111, 100, 117, 108, 101, 32, 105, 109, 112, 111, 114, 116, 32, 112, 117, 98, 32, 116, 121, 112, 101, 32, 105, 110, 112, 117, 116, 32, 114, 101, 108, 32, 110, 101, 118, 101, 114, 32, 110, 111, 116, 32, 97, 110, 100, 32, 111, 114, 32, 105, 102, 32, 116, 104, 101, 110, 32, 101, 108, 115, 101, 32, 116, 114, 117, 101, 32, 102, 97, 108, 115, 101, 32, 99, 111, 117, 110, 116, 32, 115, 117, 109, 32, 109, 105, 110, 32, 109, 97, 120, 32, 110, 101, 103, 32, 108, 101, 110, 32, 98, 105, 103, 32, 105, 110, 116, 32, 98, 111, 111, 108, 32, 116, 101, 120, 116, 32, 116, 117, 112, 108, 101, 32] ((([32] : Str) ++ p_s) ++ ([32] : Str)) (fun r30 H31 =>
 J25 (!r30) H31) H23)
 (J25 false H23)))
 (fun J18 => ift b9
 (Qie C p_s (fun r21 H22 =>
 J18 r21 H22) H16)
 (J18 false H16)))
 (fun J10 => ift b1
 (ixs p_s 0 fun c13 =>
 J10 (decide (((c13.toNat : Int) : Int) ≤ 122)) H8)
 (J10 false H8)))
 (fun J2 => ift (!(p_s == ([] : Str)))
 (ixs p_s 0 fun c5 =>
 J2 (decide (((c5.toNat : Int) : Int) ≥ 97)) H)
 (J2 false H))
theorem Qo2 (C p_s K H) (h : Ql1 C p_s K H) : Qbg C p_s K H := by
 refine Ye Tryz.func46 rfl Tryz.ntmps46 [(0, sv p_s)] (Zo (Za (GL.nil (Zo (Zm (Zv (OV.sbin (a := p_s) (b := ([] : Str)) (v := .bool (!(p_s == ([] : Str)))) rfl rfl rfl) (Zm ?_)))))))
 obtain ⟨J2, h, hR3⟩ := h
 refine GL.cut (α := Bool) 4 J2 (fun b1 => [(9, .bool b1), (0, sv p_s)]) ?_ ?_
 rcases h.em with ⟨u4, h⟩ | ⟨u4, h⟩
 refine Zu u4 Ym ?_
 obtain ⟨c5, ha6, hb7, h⟩ := h
 refine Zu u4 (OV.indexStr rfl rfl rfl ha6 hb7) (Zu u4 (OV.ibin (v := .bool (decide (((c5.toNat : Int) : Int) ≥ 97))) rfl rfl rfl) (Zt u4 ?_))
 exact Yj I3 (decide (((c5.toNat : Int) : Int) ≥ 97)) h
 refine Zk u4 (Zk u4 (Zk u4 (Zn u4 ?_)))
 exact Yj I3 false h
 intro b1 H8 h
 replace h := hR3 b1 H8 h
 refine Zm ?_
 obtain ⟨J10, h, hR11⟩ := h
 refine GL.cut (α := Bool) 4 J10 (fun b9 => [(14, .bool b9), (0, sv p_s)]) ?_ ?_
 rcases h.em with ⟨u12, h⟩ | ⟨u12, h⟩
 refine Zu u12 Ym ?_
 obtain ⟨c13, ha14, hb15, h⟩ := h
 refine Zu u12 (OV.indexStr rfl rfl rfl ha14 hb15) (Zu u12 (OV.ibin (v := .bool (decide (((c13.toNat : Int) : Int) ≤ 122))) rfl rfl rfl) (Zt u12 ?_))
 exact Yj I3 (decide (((c13.toNat : Int) : Int) ≤ 122)) h
 refine Zk u12 (Zk u12 (Zk u12 (Zn u12 ?_)))
 exact Yj I3 false h
 intro b9 H16 h
 replace h := hR11 b9 H16 h
 refine Zm ?_
 obtain ⟨J18, h, hR19⟩ := h
 refine GL.cut (α := Bool) 3 J18 (fun b17 => [(18, .bool b17), (0, sv p_s)]) ?_ ?_
 rcases h.em with ⟨u20, h⟩ | ⟨u20, h⟩
 refine Zu u20 Ym (GL.call h (Yt u20) rfl QlQ (vs := [sv p_s]) rfl ?_)
 rintro _ H22 ⟨r21, rfl, h⟩
 refine Zt u20 ?_
 exact Yj I3 r21 h
 refine Zk u20 (Zk u20 (Zn u20 ?_))
 exact Yj I3 false h
 intro b17 H23 h
 replace h := hR19 b17 H23 h
 refine Zm ?_
 obtain ⟨J25, h, hR26⟩ := h
 refine GL.cut (α := Bool) 6 J25 (fun b24 => [(25, .bool b24)]) ?_ ?_
 rcases h.em with ⟨u27, h⟩ | ⟨u27, h⟩
 refine Zu u27 Ym ?_
 obtain ⟨hl28, h⟩ := h
 refine Zu u27 (OV.cat (a := ([32] : Str)) (b := p_s) rfl rfl hl28) ?_
 obtain ⟨hl29, h⟩ := h
 refine Zu u27 (OV.cat (a := (([32] : Str) ++ p_s)) (b := ([32] : Str)) rfl rfl hl29) (GL.call h (Yt u27) rfl QkJ (vs := [sv [32, 109, 111, 100, 117, 108, 101, 32, 105, 109, 112, 111, 114, 116, 32, 112, 117, 98, 32, 116, 121, 112, 101, 32, 105, 110, 112, 117, 116, 32, 114, 101, 108, 32, 110, 101, 118, 101, 114, 32, 110, 111, 116, 32, 97, 110, 100, 32, 111, 114, 32, 105, 102, 32, 116, 104, 101, 110, 32, 101, 108, 115, 101, 32, 116, 114, 117, 101, 32, 102, 97, 108, 115, 101, 32, 99, 111, 117, 110, 116, 32, 115, 117, 109, 32, 109, 105, 110, 32, 109, 97, 120, 32, 110, 101, 103, 32, 108, 101, 110, 32, 98, 105, 103, 32, 105, 110, 116, 32, 98, 111, 111, 108, 32, 116, 101, 120, 116, 32, 116, 117, 112, 108, 101, 32], sv ((([32] : Str) ++ p_s) ++ ([32] : Str))]) rfl ?_)
 rintro _ H31 ⟨r30, rfl, h⟩
 refine Zu u27 (OV.not rfl) (Zt u27 ?_)
 exact Yj I3 (!r30) h
 refine Zk u27 (Zk u27 (Zk u27 (Zk u27 (Zk u27 (Zn u27 ?_)))))
 exact Yj I3 false h
 intro b24 H32 h
 replace h := hR26 b24 H32 h
 refine Za (GL.nil ?_)
 exact Y1 I3 ⟨b24, rfl, h⟩
def Qfj (C : Ctx) (p_l : Sl) (p_is : Value) (K : Bool → Heap → Prop) (H : Heap) : Prop :=
 (Value.cells p_is = #[p_is]) ∧ nw ([p_is]) (fun b1 H2 =>
 QaQ C p_l (.func (.func 131) (List.toArray []) (List.toArray [pv (some (b1, 0))]) : Value) (fun r4 H5 =>
 K (!r4) H5) H2) H
theorem QiO (C p_l p_is K H) (h : Qfj C p_l p_is K H) : Qal C p_l p_is K H := by
 refine Ye Tryz.func47 rfl Tryz.ntmps47 [(0, slv p_l), (1, p_is)] (Zo ?_)
 obtain ⟨u3, h⟩ := h
 refine GL.box (v := p_is) (cs := [p_is]) h trivial rfl rfl u3 ?_
 intro b1 H2 h
 refine Za (GL.nil (Zo (Zm (Zv (OV.makeFunc (vs := []) (us := [pv (some (b1, 0))]) rfl rfl) (Zc h QcA ?_)))))
 rintro _ H5 ⟨r4, rfl, h⟩
 refine Zv (OV.not rfl) (Za (GL.nil ?_))
 exact Y1 I3 ⟨(!r4), rfl, h⟩
def Qju (C : Ctx) (p_x : Ql) (K : Bool → Heap → Prop) (H : Heap) : Prop :=
 nw (Ql.c p_x) (fun b1 H2 =>
 ldS H2 ((b1, 0).1, (b1, 0).2 + 2) fun x3 =>
 Qbg C x3 (fun r5 H6 =>
 K r5 H6) H2) H
theorem Qmy (C p_x K H) (h : Qju C p_x K H) : Qc0 C p_x K H := by
 refine Ye Tryz.func48 rfl Tryz.ntmps48 [(0, .agg (Ql.c p_x).toArray)] (Zo (GL.box (v := .agg (Ql.c p_x).toArray) (cs := Ql.c p_x) h trivial rfl rfl rfl ?_))
 intro b1 H2 h
 refine Za (GL.nil (Zo (Zf (Yl h fun x3 h => ?_))))
 refine Zc h Qbr ?_
 rintro _ H6 ⟨r5, rfl, h⟩
 refine Za (GL.nil ?_)
 exact Y1 I3 ⟨r5, rfl, h⟩
def Qe8 (C : Ctx) (p_l : Sl) (p_is : Value) (K : Bool → Heap → Prop) (H : Heap) : Prop :=
 (Value.cells p_is = #[p_is]) ∧ nw ([p_is]) (fun b1 H2 =>
 QaG C p_l (.func (.func 133) (List.toArray []) (List.toArray [pv (some (b1, 0))]) : Value) (fun r4 H5 =>
 K (!r4) H5) H2) H
theorem Qh7 (C p_l p_is K H) (h : Qe8 C p_l p_is K H) : Qah C p_l p_is K H := by
 refine Ye Tryz.func49 rfl Tryz.ntmps49 [(0, slv p_l), (1, p_is)] (Zo ?_)
 obtain ⟨u3, h⟩ := h
 refine GL.box (v := p_is) (cs := [p_is]) h trivial rfl rfl u3 ?_
 intro b1 H2 h
 refine Za (GL.nil (Zo (Zm (Zv (OV.makeFunc (vs := []) (us := [pv (some (b1, 0))]) rfl rfl) (Zc h Qcl ?_)))))
 rintro _ H5 ⟨r4, rfl, h⟩
 refine Zv (OV.not rfl) (Za (GL.nil ?_))
 exact Y1 I3 ⟨(!r4), rfl, h⟩
def QjD (C : Ctx) (p_t : Qg) (K : Bool → Heap → Prop) (H : Heap) : Prop :=
 nw (Qg.c p_t) (fun b1 H2 =>
 ldS H2 ((b1, 0).1, (b1, 0).2 + 3) fun x3 =>
 Qbg C x3 (fun r5 H6 =>
 jn (α := Bool) (fun b7 H13 =>
 jn (α := Bool) (fun b14 H22 =>
 jn (α := Bool) (fun b23 H29 =>
 jn (α := Bool) (fun b30 H36 =>
 jn (α := Bool) (fun b37 H45 =>
 K b37 H45)
 (fun J38 => ift b30
 (ldL H36 ((b1, 0).1, (b1, 0).2 + 5) fun x41 =>
 Qag C x41 (.func (.func 137) (List.toArray []) (List.toArray []) : Value) (fun r43 H44 =>
 J38 r43 H44) H36)
 (J38 false H36)))
 (fun J31 => ift b23
 (ldL H29 ((b1, 0).1, (b1, 0).2 + 5) fun x34 =>
 J31 (decide (((Sl.len x34 : Int) : Int) ≤ 16)) H29)
 (J31 false H29)))
 (fun J24 => ift b14
 (ldL H22 ((b1, 0).1, (b1, 0).2 + 5) fun x27 =>
 J24 (decide (((Sl.len x27 : Int) : Int) ≥ 1)) H22)
 (J24 false H22)))
 (fun J15 => ift b7
 (ldL H13 ((b1, 0).1, (b1, 0).2 + 4) fun x18 =>
 QaH C x18 (.func (.func 135) (List.toArray []) (List.toArray []) : Value) (fun r20 H21 =>
 J15 r20 H21) H13)
 (J15 false H13)))
 (fun J8 => ift r5
 (ldL H6 ((b1, 0).1, (b1, 0).2 + 4) fun x11 =>
 J8 (decide (((Sl.len x11 : Int) : Int) ≤ 8)) H6)
 (J8 false H6))) H2) H
theorem QmH (C p_t K H) (h : QjD C p_t K H) : Qc7 C p_t K H := by
 refine Ye Tryz.func50 rfl Tryz.ntmps50 [(0, .agg (Qg.c p_t).toArray)] (Zo (GL.box (v := .agg (Qg.c p_t).toArray) (cs := Qg.c p_t) h trivial rfl rfl rfl ?_))
 intro b1 H2 h
 refine Za (GL.nil (Zo (Zf (Yl h fun x3 h => ?_))))
 refine Zc h Qbr ?_
 rintro _ H6 ⟨r5, rfl, h⟩
 refine Zm ?_
 obtain ⟨J8, h, hR9⟩ := h
 refine GL.cut (α := Bool) 5 J8 (fun b7 => [(11, .bool b7), (1, pv (some (b1, 0)))]) ?_ ?_
 rcases h.em with ⟨u10, h⟩ | ⟨u10, h⟩
 refine Zu u10 Yf ?_
 obtain ⟨x11, v12, h⟩ := h
 refine Zu u10 (Yo v12) (Zu u10 (OV.lenSl rfl rfl) (Zu u10 (OV.ibin (v := .bool (decide (((Sl.len x11 : Int) : Int) ≤ 8))) rfl rfl rfl) (Zt u10 ?_)))
 exact Yj I3 (decide (((Sl.len x11 : Int) : Int) ≤ 8)) h
 refine Zk u10 (Zk u10 (Zk u10 (Zk u10 (Zn u10 ?_))))
 exact Yj I3 false h
 intro b7 H13 h
 replace h := hR9 b7 H13 h
 refine Zm ?_
 obtain ⟨J15, h, hR16⟩ := h
 refine GL.cut (α := Bool) 4 J15 (fun b14 => [(16, .bool b14), (1, pv (some (b1, 0)))]) ?_ ?_
 rcases h.em with ⟨u17, h⟩ | ⟨u17, h⟩
 refine Zu u17 Yf ?_
 obtain ⟨x18, v19, h⟩ := h
 refine Zu u17 (Yo v19) (GL.call h (Yt u17) rfl QgW (vs := [slv x18, .func (.func 135) (List.toArray []) (List.toArray [])]) rfl ?_)
 rintro _ H21 ⟨r20, rfl, h⟩
 refine Zt u17 ?_
 exact Yj I3 r20 h
 refine Zk u17 (Zk u17 (Zk u17 (Zn u17 ?_)))
 exact Yj I3 false h
 intro b14 H22 h
 replace h := hR16 b14 H22 h
 refine Zm ?_
 obtain ⟨J24, h, hR25⟩ := h
 refine GL.cut (α := Bool) 5 J24 (fun b23 => [(22, .bool b23), (1, pv (some (b1, 0)))]) ?_ ?_
 rcases h.em with ⟨u26, h⟩ | ⟨u26, h⟩
 refine Zu u26 Yf ?_
 obtain ⟨x27, v28, h⟩ := h
 refine Zu u26 (Yo v28) (Zu u26 (OV.lenSl rfl rfl) (Zu u26 (OV.ibin (v := .bool (decide (((Sl.len x27 : Int) : Int) ≥ 1))) rfl rfl rfl) (Zt u26 ?_)))
 exact Yj I3 (decide (((Sl.len x27 : Int) : Int) ≥ 1)) h
 refine Zk u26 (Zk u26 (Zk u26 (Zk u26 (Zn u26 ?_))))
 exact Yj I3 false h
 intro b23 H29 h
 replace h := hR25 b23 H29 h
 refine Zm ?_
 obtain ⟨J31, h, hR32⟩ := h
 refine GL.cut (α := Bool) 5 J31 (fun b30 => [(28, .bool b30), (1, pv (some (b1, 0)))]) ?_ ?_
 rcases h.em with ⟨u33, h⟩ | ⟨u33, h⟩
 refine Zu u33 Yf ?_
 obtain ⟨x34, v35, h⟩ := h
 refine Zu u33 (Yo v35) (Zu u33 (OV.lenSl rfl rfl) (Zu u33 (OV.ibin (v := .bool (decide (((Sl.len x34 : Int) : Int) ≤ 16))) rfl rfl rfl) (Zt u33 ?_)))
 exact Yj I3 (decide (((Sl.len x34 : Int) : Int) ≤ 16)) h
 refine Zk u33 (Zk u33 (Zk u33 (Zk u33 (Zn u33 ?_))))
 exact Yj I3 false h
 intro b30 H36 h
 replace h := hR32 b30 H36 h
 refine Zm ?_
 obtain ⟨J38, h, hR39⟩ := h
 refine GL.cut (α := Bool) 4 J38 (fun b37 => [(33, .bool b37)]) ?_ ?_
 rcases h.em with ⟨u40, h⟩ | ⟨u40, h⟩
 refine Zu u40 Yf ?_
 obtain ⟨x41, v42, h⟩ := h
 refine Zu u40 (Yo v42) (GL.call h (Yt u40) rfl Qip (vs := [slv x41, .func (.func 137) (List.toArray []) (List.toArray [])]) rfl ?_)
 rintro _ H44 ⟨r43, rfl, h⟩
 refine Zt u40 ?_
 exact Yj I3 r43 h
 refine Zk u40 (Zk u40 (Zk u40 (Zn u40 ?_)))
 exact Yj I3 false h
 intro b37 H45 h
 replace h := hR39 b37 H45 h
 refine Za (GL.nil ?_)
 exact Y1 I3 ⟨b37, rfl, h⟩
def Qfk (C : Ctx) (p_l : Sl) (p_is : Value) (K : Bool → Heap → Prop) (H : Heap) : Prop :=
 (Value.cells p_is = #[p_is]) ∧ nw ([p_is]) (fun b1 H2 =>
 QaR C p_l (.func (.func 139) (List.toArray []) (List.toArray [pv (some (b1, 0))]) : Value) (fun r4 H5 =>
 K (!r4) H5) H2) H
theorem QiP (C p_l p_is K H) (h : Qfk C p_l p_is K H) : Qam C p_l p_is K H := by
 refine Ye Tryz.func51 rfl Tryz.ntmps51 [(0, slv p_l), (1, p_is)] (Zo ?_)
 obtain ⟨u3, h⟩ := h
 refine GL.box (v := p_is) (cs := [p_is]) h trivial rfl rfl u3 ?_
 intro b1 H2 h
 refine Za (GL.nil (Zo (Zm (Zv (OV.makeFunc (vs := []) (us := [pv (some (b1, 0))]) rfl rfl) (Zc h QcB ?_)))))
 rintro _ H5 ⟨r4, rfl, h⟩
 refine Zv (OV.not rfl) (Za (GL.nil ?_))
 exact Y1 I3 ⟨(!r4), rfl, h⟩
def Qjv (C : Ctx) (p_x : Qh) (K : Bool → Heap → Prop) (H : Heap) : Prop :=
 nw (Qh.c p_x) (fun b1 H2 =>
 ldS H2 ((b1, 0).1, (b1, 0).2 + 4) fun x3 =>
 Qbg C x3 (fun r5 H6 =>
 jn (α := Bool) (fun b7 H15 =>
 K b7 H15)
 (fun J8 => ift r5
 (ldL H6 ((b1, 0).1, (b1, 0).2 + 5) fun x11 =>
 Qb2 C x11 true (fun r13 H14 =>
 J8 r13 H14) H6)
 (J8 false H6))) H2) H
theorem Qmz (C p_x K H) (h : Qjv C p_x K H) : Qc1 C p_x K H := by
 refine Ye Tryz.func52 rfl Tryz.ntmps52 [(0, .agg (Qh.c p_x).toArray)] (Zo (GL.box (v := .agg (Qh.c p_x).toArray) (cs := Qh.c p_x) h trivial rfl rfl rfl ?_))
 intro b1 H2 h
 refine Za (GL.nil (Zo (Zf (Yl h fun x3 h => ?_))))
 refine Zc h Qbr ?_
 rintro _ H6 ⟨r5, rfl, h⟩
 refine Zm ?_
 obtain ⟨J8, h, hR9⟩ := h
 refine GL.cut (α := Bool) 4 J8 (fun b7 => [(10, .bool b7)]) ?_ ?_
 rcases h.em with ⟨u10, h⟩ | ⟨u10, h⟩
 refine Zu u10 Yf ?_
 obtain ⟨x11, v12, h⟩ := h
 refine Zu u10 (Yo v12) (GL.call h (Yt u10) rfl Qka (vs := [slv x11, .bool true]) rfl ?_)
 rintro _ H14 ⟨r13, rfl, h⟩
 refine Zt u10 ?_
 exact Yj I3 r13 h
 refine Zk u10 (Zk u10 (Zk u10 (Zn u10 ?_)))
 exact Yj I3 false h
 intro b7 H15 h
 replace h := hR9 b7 H15 h
 refine Za (GL.nil ?_)
 exact Y1 I3 ⟨b7, rfl, h⟩
def Qku (C : Ctx) (p_l : Sl) (p_named : Bool) (K : Bool → Heap → Prop) (H : Heap) : Prop :=
 nw ([.bool p_named]) (fun b1 H2 =>
 jn (α := Bool) (fun b3 H9 =>
 K b3 H9)
 (fun J4 => ift (decide (((Sl.len p_l : Int) : Int) ≤ 8))
 (Q5 C p_l (.func (.func 141) (List.toArray []) (List.toArray [pv (some (b1, 0))]) : Value) (fun r7 H8 =>
 J4 r7 H8) H2)
 (J4 false H2))) H
theorem QnC (C p_l p_named K H) (h : Qku C p_l p_named K H) : Qb2 C p_l p_named K H := by
 refine Ye Tryz.func53 rfl Tryz.ntmps53 [(0, slv p_l), (1, .bool p_named)] (Zo (GL.box (v := .bool p_named) (cs := [.bool p_named]) h trivial rfl rfl rfl ?_))
 intro b1 H2 h
 refine Za (GL.nil (Zo (Zm (Zq (Zi (.bool (decide (((Sl.len p_l : Int) : Int) ≤ 8))) (Zm ?_))))))
 obtain ⟨J4, h, hR5⟩ := h
 refine GL.cut (α := Bool) 4 J4 (fun b3 => [(12, .bool b3)]) ?_ ?_
 rcases h.em with ⟨u6, h⟩ | ⟨u6, h⟩
 refine Zu u6 Ym (Zu u6 (OV.makeFunc (vs := []) (us := [pv (some (b1, 0))]) rfl rfl) (GL.call h (Yt u6) rfl QhN (vs := [slv p_l, .func (.func 141) (List.toArray []) (List.toArray [pv (some (b1, 0))])]) rfl ?_))
 rintro _ H8 ⟨r7, rfl, h⟩
 refine Zt u6 ?_
 exact Yj I3 r7 h
 refine Zk u6 (Zk u6 (Zk u6 (Zn u6 ?_)))
 exact Yj I3 false h
 intro b3 H9 h
 replace h := hR5 b3 H9 h
 refine Za (GL.nil ?_)
 exact Y1 I3 ⟨b3, rfl, h⟩
def Qf6 (C : Ctx) (p_l : Sl) (p_is : Value) (K : Bool → Heap → Prop) (H : Heap) : Prop :=
 (Value.cells p_is = #[p_is]) ∧ nw ([p_is]) (fun b1 H2 =>
 Qbp C p_l (.func (.func 144) (List.toArray []) (List.toArray [pv (some (b1, 0))]) : Value) (fun r4 H5 =>
 K (!r4) H5) H2) H
theorem QjO (C p_l p_is K H) (h : Qf6 C p_l p_is K H) : Qan C p_l p_is K H := by
 refine Ye Tryz.func54 rfl Tryz.ntmps54 [(0, slv p_l), (1, p_is)] (Zo ?_)
 obtain ⟨u3, h⟩ := h
 refine GL.box (v := p_is) (cs := [p_is]) h trivial rfl rfl u3 ?_
 intro b1 H2 h
 refine Za (GL.nil (Zo (Zm (Zv (OV.makeFunc (vs := []) (us := [pv (some (b1, 0))]) rfl rfl) (Zc h Qdt ?_)))))
 rintro _ H5 ⟨r4, rfl, h⟩
 refine Zv (OV.not rfl) (Za (GL.nil ?_))
 exact Y1 I3 ⟨(!r4), rfl, h⟩
def Ql3 (C : Ctx) (p_r : Qk) (K : Bool → Heap → Prop) (H : Heap) : Prop :=
 nw (Qk.c p_r) (fun b1 H2 =>
 ldS H2 ((b1, 0).1, (b1, 0).2 + 2) fun x3 =>
 Qfr C x3 (fun r5 H6 =>
 jn (α := Bool) (fun b7 H13 =>
 jn (α := Bool) (fun b14 H22 =>
 jn (α := Bool) (fun b23 H31 =>
 jn (α := Bool) (fun b32 H40 =>
 jn (α := Bool) (fun b41 H49 =>
 K b41 H49)
 (fun J42 => ift b32
 (ldL H40 ((b1, 0).1, (b1, 0).2 + 4) fun x45 =>
 QaH C x45 (.func (.func 147) (List.toArray []) (List.toArray []) : Value) (fun r47 H48 =>
 J42 r47 H48) H40)
 (J42 false H40)))
 (fun J33 => ift b23
 (ldL H31 ((b1, 0).1, (b1, 0).2 + 5) fun x36 =>
 QS C x36 (.func (.func 59) (List.toArray []) (List.toArray []) : Value) (fun r38 H39 =>
 J33 r38 H39) H31)
 (J33 false H31)))
 (fun J24 => ift b14
 (ldL H22 ((b1, 0).1, (b1, 0).2 + 3) fun x27 =>
 QN C x27 (.func (.func 92) (List.toArray []) (List.toArray []) : Value) (fun r29 H30 =>
 J24 r29 H30) H22)
 (J24 false H22)))
 (fun J15 => ift b7
 (ldL H13 ((b1, 0).1, (b1, 0).2 + 4) fun x18 =>
 ldL H13 ((b1, 0).1, (b1, 0).2 + 3) fun x20 =>
 J15 (((Sl.len x18 : Int) : Int) == (Sl.len x20 : Int)) H13)
 (J15 false H13)))
 (fun J8 => ift r5
 (ldL H6 ((b1, 0).1, (b1, 0).2 + 3) fun x11 =>
 J8 (decide (((Sl.len x11 : Int) : Int) ≤ 8)) H6)
 (J8 false H6))) H2) H
theorem Qo4 (C p_r K H) (h : Ql3 C p_r K H) : Qfs C p_r K H := by
 refine Ye Tryz.func55 rfl Tryz.ntmps55 [(0, .agg (Qk.c p_r).toArray)] (Zo (GL.box (v := .agg (Qk.c p_r).toArray) (cs := Qk.c p_r) h trivial rfl rfl rfl ?_))
 intro b1 H2 h
 refine Za (GL.nil (Zo (Zf (Yl h fun x3 h => ?_))))
 refine Zc h QgY ?_
 rintro _ H6 ⟨r5, rfl, h⟩
 refine Zm ?_
 obtain ⟨J8, h, hR9⟩ := h
 refine GL.cut (α := Bool) 5 J8 (fun b7 => [(11, .bool b7), (1, pv (some (b1, 0)))]) ?_ ?_
 rcases h.em with ⟨u10, h⟩ | ⟨u10, h⟩
 refine Zu u10 Yf ?_
 obtain ⟨x11, v12, h⟩ := h
 refine Zu u10 (Yo v12) (Zu u10 (OV.lenSl rfl rfl) (Zu u10 (OV.ibin (v := .bool (decide (((Sl.len x11 : Int) : Int) ≤ 8))) rfl rfl rfl) (Zt u10 ?_)))
 exact Yj I3 (decide (((Sl.len x11 : Int) : Int) ≤ 8)) h
 refine Zk u10 (Zk u10 (Zk u10 (Zk u10 (Zn u10 ?_))))
 exact Yj I3 false h
 intro b7 H13 h
 replace h := hR9 b7 H13 h
 refine Zm ?_
 obtain ⟨J15, h, hR16⟩ := h
 refine GL.cut (α := Bool) 8 J15 (fun b14 => [(20, .bool b14), (1, pv (some (b1, 0)))]) ?_ ?_
 rcases h.em with ⟨u17, h⟩ | ⟨u17, h⟩
 refine Zu u17 Yf ?_
 obtain ⟨x18, v19, h⟩ := h
 refine Zu u17 (Yo v19) (Zu u17 (OV.lenSl rfl rfl) (Zu u17 Yf ?_))
 obtain ⟨x20, v21, h⟩ := h
 refine Zu u17 (Yo v21) (Zu u17 (OV.lenSl rfl rfl) (Zu u17 (OV.ibin (v := .bool (((Sl.len x18 : Int) : Int) == (Sl.len x20 : Int))) rfl rfl rfl) (Zt u17 ?_)))
 exact Yj I3 (((Sl.len x18 : Int) : Int) == (Sl.len x20 : Int)) h
 refine Zk u17 (Zk u17 (Zk u17 (Zk u17 (Zk u17 (Zk u17 (Zk u17 (Zn u17 ?_)))))))
 exact Yj I3 false h
 intro b14 H22 h
 replace h := hR16 b14 H22 h
 refine Zm ?_
 obtain ⟨J24, h, hR25⟩ := h
 refine GL.cut (α := Bool) 4 J24 (fun b23 => [(25, .bool b23), (1, pv (some (b1, 0)))]) ?_ ?_
 rcases h.em with ⟨u26, h⟩ | ⟨u26, h⟩
 refine Zu u26 Yf ?_
 obtain ⟨x27, v28, h⟩ := h
 refine Zu u26 (Yo v28) (GL.call h (Yt u26) rfl Qeb (vs := [slv x27, .func (.func 92) (List.toArray []) (List.toArray [])]) rfl ?_)
 rintro _ H30 ⟨r29, rfl, h⟩
 refine Zt u26 ?_
 exact Yj I3 r29 h
 refine Zk u26 (Zk u26 (Zk u26 (Zn u26 ?_)))
 exact Yj I3 false h
 intro b23 H31 h
 replace h := hR25 b23 H31 h
 refine Zm ?_
 obtain ⟨J33, h, hR34⟩ := h
 refine GL.cut (α := Bool) 4 J33 (fun b32 => [(30, .bool b32), (1, pv (some (b1, 0)))]) ?_ ?_
 rcases h.em with ⟨u35, h⟩ | ⟨u35, h⟩
 refine Zu u35 Yf ?_
 obtain ⟨x36, v37, h⟩ := h
 refine Zu u35 (Yo v37) (GL.call h (Yt u35) rfl Qe3 (vs := [slv x36, .func (.func 59) (List.toArray []) (List.toArray [])]) rfl ?_)
 rintro _ H39 ⟨r38, rfl, h⟩
 refine Zt u35 ?_
 exact Yj I3 r38 h
 refine Zk u35 (Zk u35 (Zk u35 (Zn u35 ?_)))
 exact Yj I3 false h
 intro b32 H40 h
 replace h := hR34 b32 H40 h
 refine Zm ?_
 obtain ⟨J42, h, hR43⟩ := h
 refine GL.cut (α := Bool) 4 J42 (fun b41 => [(35, .bool b41)]) ?_ ?_
 rcases h.em with ⟨u44, h⟩ | ⟨u44, h⟩
 refine Zu u44 Yf ?_
 obtain ⟨x45, v46, h⟩ := h
 refine Zu u44 (Yo v46) (GL.call h (Yt u44) rfl QgW (vs := [slv x45, .func (.func 147) (List.toArray []) (List.toArray [])]) rfl ?_)
 rintro _ H48 ⟨r47, rfl, h⟩
 refine Zt u44 ?_
 exact Yj I3 r47 h
 refine Zk u44 (Zk u44 (Zk u44 (Zn u44 ?_)))
 exact Yj I3 false h
 intro b41 H49 h
 replace h := hR43 b41 H49 h
 refine Za (GL.nil ?_)
 exact Y1 I3 ⟨b41, rfl, h⟩
def QfL (C : Ctx) (p_l : Sl) (p_is : Value) (K : Bool → Heap → Prop) (H : Heap) : Prop :=
 (Value.cells p_is = #[p_is]) ∧ nw ([p_is]) (fun b1 H2 =>
 Qa8 C p_l (.func (.func 149) (List.toArray []) (List.toArray [pv (some (b1, 0))]) : Value) (fun r4 H5 =>
 K (!r4) H5) H2) H
theorem Qi7 (C p_l p_is K H) (h : QfL C p_l p_is K H) : Qae C p_l p_is K H := by
 refine Ye Tryz.func56 rfl Tryz.ntmps56 [(0, slv p_l), (1, p_is)] (Zo ?_)
 obtain ⟨u3, h⟩ := h
 refine GL.box (v := p_is) (cs := [p_is]) h trivial rfl rfl u3 ?_
 intro b1 H2 h
 refine Za (GL.nil (Zo (Zm (Zv (OV.makeFunc (vs := []) (us := [pv (some (b1, 0))]) rfl rfl) (Zc h QcS ?_)))))
 rintro _ H5 ⟨r4, rfl, h⟩
 refine Zv (OV.not rfl) (Za (GL.nil ?_))
 exact Y1 I3 ⟨(!r4), rfl, h⟩
def Qjw (C : Ctx) (p_x : Qj) (K : Bool → Heap → Prop) (H : Heap) : Prop :=
 nw (Qj.c p_x) (fun b1 H2 =>
 ldS H2 ((b1, 0).1, (b1, 0).2 + 2) fun x3 =>
 Qbg C x3 (fun r5 H6 =>
 jn (α := Bool) (fun b7 H13 =>
 jn (α := Bool) (fun b14 H22 =>
 K b14 H22)
 (fun J15 => ift b7
 (ldL H13 ((b1, 0).1, (b1, 0).2 + 3) fun x18 =>
 QS C x18 (.func (.func 59) (List.toArray []) (List.toArray []) : Value) (fun r20 H21 =>
 J15 r20 H21) H13)
 (J15 false H13)))
 (fun J8 => ift r5
 (ldL H6 ((b1, 0).1, (b1, 0).2 + 3) fun x11 =>
 J8 (decide (((Sl.len x11 : Int) : Int) > 0)) H6)
 (J8 false H6))) H2) H
theorem QmA (C p_x K H) (h : Qjw C p_x K H) : Qc2 C p_x K H := by
 refine Ye Tryz.func57 rfl Tryz.ntmps57 [(0, .agg (Qj.c p_x).toArray)] (Zo (GL.box (v := .agg (Qj.c p_x).toArray) (cs := Qj.c p_x) h trivial rfl rfl rfl ?_))
 intro b1 H2 h
 refine Za (GL.nil (Zo (Zf (Yl h fun x3 h => ?_))))
 refine Zc h Qbr ?_
 rintro _ H6 ⟨r5, rfl, h⟩
 refine Zm ?_
 obtain ⟨J8, h, hR9⟩ := h
 refine GL.cut (α := Bool) 5 J8 (fun b7 => [(11, .bool b7), (1, pv (some (b1, 0)))]) ?_ ?_
 rcases h.em with ⟨u10, h⟩ | ⟨u10, h⟩
 refine Zu u10 Yf ?_
 obtain ⟨x11, v12, h⟩ := h
 refine Zu u10 (Yo v12) (Zu u10 (OV.lenSl rfl rfl) (Zu u10 (OV.ibin (v := .bool (decide (((Sl.len x11 : Int) : Int) > 0))) rfl rfl rfl) (Zt u10 ?_)))
 exact Yj I3 (decide (((Sl.len x11 : Int) : Int) > 0)) h
 refine Zk u10 (Zk u10 (Zk u10 (Zk u10 (Zn u10 ?_))))
 exact Yj I3 false h
 intro b7 H13 h
 replace h := hR9 b7 H13 h
 refine Zm ?_
 obtain ⟨J15, h, hR16⟩ := h
 refine GL.cut (α := Bool) 4 J15 (fun b14 => [(16, .bool b14)]) ?_ ?_
 rcases h.em with ⟨u17, h⟩ | ⟨u17, h⟩
 refine Zu u17 Yf ?_
 obtain ⟨x18, v19, h⟩ := h
 refine Zu u17 (Yo v19) (GL.call h (Yt u17) rfl Qe3 (vs := [slv x18, .func (.func 59) (List.toArray []) (List.toArray [])]) rfl ?_)
 rintro _ H21 ⟨r20, rfl, h⟩
 refine Zt u17 ?_
 exact Yj I3 r20 h
 refine Zk u17 (Zk u17 (Zk u17 (Zn u17 ?_)))
 exact Yj I3 false h
 intro b14 H22 h
 replace h := hR16 b14 H22 h
 refine Za (GL.nil ?_)
 exact Y1 I3 ⟨b14, rfl, h⟩
def Qe6 (C : Ctx) (p_l : Sl) (p_is : Value) (K : Bool → Heap → Prop) (H : Heap) : Prop :=
 (Value.cells p_is = #[p_is]) ∧ nw ([p_is]) (fun b1 H2 =>
 QaF C p_l (.func (.func 151) (List.toArray []) (List.toArray [pv (some (b1, 0))]) : Value) (fun r4 H5 =>
 K (!r4) H5) H2) H
theorem Qh5 (C p_l p_is K H) (h : Qe6 C p_l p_is K H) : QS C p_l p_is K H := by
 refine Ye Tryz.func58 rfl Tryz.ntmps58 [(0, slv p_l), (1, p_is)] (Zo ?_)
 obtain ⟨u3, h⟩ := h
 refine GL.box (v := p_is) (cs := [p_is]) h trivial rfl rfl u3 ?_
 intro b1 H2 h
 refine Za (GL.nil (Zo (Zm (Zv (OV.makeFunc (vs := []) (us := [pv (some (b1, 0))]) rfl rfl) (Zc h Qck ?_)))))
 rintro _ H5 ⟨r4, rfl, h⟩
 refine Zv (OV.not rfl) (Za (GL.nil ?_))
 exact Y1 I3 ⟨(!r4), rfl, h⟩
def QjB (C : Ctx) (p_x : Qd) (K : Bool → Heap → Prop) (H : Heap) : Prop :=
 nw (Qd.c p_x) (fun b1 H2 =>
 ldI H2 .u8 ((b1, 0).1, (b1, 0).2 + 0) fun x3 =>
 jn (α := Bool) (fun x6 H7 =>
 ift x6
 (ldS H7 ((b1, 0).1, (b1, 0).2 + 3) fun x11 =>
 Qfr C x11 (fun r13 H14 =>
 jn (α := Bool) (fun b15 H21 =>
 jn (α := Bool) (fun b22 H30 =>
 K b22 H30)
 (fun J23 => ift b15
 (ldL H21 ((b1, 0).1, (b1, 0).2 + 4) fun x26 =>
 QN C x26 (.func (.func 152) (List.toArray []) (List.toArray []) : Value) (fun r28 H29 =>
 J23 r28 H29) H21)
 (J23 false H21)))
 (fun J16 => ift r13
 (ldL H14 ((b1, 0).1, (b1, 0).2 + 4) fun x19 =>
 J16 (decide (((Sl.len x19 : Int) : Int) ≤ 8)) H14)
 (J16 false H14))) H7)
 (ift ((x3 : Int) == 3)
 (ldS H7 ((b1, 0).1, (b1, 0).2 + 3) fun x32 =>
 jn (α := Bool) (fun b34 H40 =>
 jn (α := Bool) (fun b41 H56 =>
 K b41 H56)
 (fun J42 => ift b34
 (ldL H40 ((b1, 0).1, (b1, 0).2 + 4) fun x45 =>
 ixa x45 0 fun p47 =>
 ldT H40 Qa.c (p47.1, p47.2 + (0 : Int).toNat * 9) fun x52 =>
 Qcb C x52 (fun r54 H55 =>
 J42 r54 H55) H40)
 (J42 false H40)))
 (fun J35 => ift (x32 == ([] : Str))
 (ldL H7 ((b1, 0).1, (b1, 0).2 + 4) fun x38 =>
 J35 (((Sl.len x38 : Int) : Int) == 1) H7)
 (J35 false H7)))
 (ift ((x3 : Int) == 4)
 (ldS H7 ((b1, 0).1, (b1, 0).2 + 3) fun x58 =>
 QeY C x58 (fun r60 H61 =>
 jn (α := Bool) (fun b62 H68 =>
 jn (α := Bool) (fun b69 H84 =>
 K b69 H84)
 (fun J70 => ift b62
 (ldL H68 ((b1, 0).1, (b1, 0).2 + 4) fun x73 =>
 ixa x73 0 fun p75 =>
 ldT H68 Qa.c (p75.1, p75.2 + (0 : Int).toNat * 9) fun x80 =>
 Qcb C x80 (fun r82 H83 =>
 J70 r82 H83) H68)
 (J70 false H68)))
 (fun J63 => ift r60
 (ldL H61 ((b1, 0).1, (b1, 0).2 + 4) fun x66 =>
 J63 (((Sl.len x66 : Int) : Int) == 1) H61)
 (J63 false H61))) H7)
 (K false H7))))
 (fun J5 => ift ((x3 : Int) == 1)
 (J5 ((x3 : Int) == 1) H2)
 (J5 ((x3 : Int) == 2) H2))) H
theorem QmF (C p_x K H) (h : QjB C p_x K H) : Qc5 C p_x K H := by
 refine Ye Tryz.func59 rfl Tryz.ntmps59 [(0, .agg (Qd.c p_x).toArray)] (Zo (GL.box (v := .agg (Qd.c p_x).toArray) (cs := Qd.c p_x) h trivial rfl rfl rfl ?_))
 intro b1 H2 h
 refine Za (GL.nil (GC.seq (Zo (Zf (Yl h fun x3 h => ?_)))))
 refine GL.nil (GC.block ?_)
 obtain ⟨J5, h, hR8⟩ := h
 refine GC.join (α := Bool) J5 (fun x6 => [(5, .bool x6), (1, pv (some (b1, 0))), (4, .int .u8 x3)]) ?_ ?_
 refine Zo (Zi (.bool ((x3 : Int) == 1)) (Za (GL.nil (Yd h (fun hc9 h => ?_) fun hc9 h => ?_))))
 exact Yk I3 ((x3 : Int) == 1) h
 refine GC.region (Zi (.bool ((x3 : Int) == 2)) (Za ?_))
 exact Yj I3 ((x3 : Int) == 2) h
 intro x6 H7 h
 replace h := hR8 x6 H7 h
 refine Yd h (fun hc10 h => ?_) fun hc10 h => ?_
 refine Zo (Zf (Yl h fun x11 h => ?_))
 refine Zc h QgY ?_
 rintro _ H14 ⟨r13, rfl, h⟩
 refine Zm ?_
 obtain ⟨J16, h, hR17⟩ := h
 refine GL.cut (α := Bool) 5 J16 (fun b15 => [(16, .bool b15), (1, pv (some (b1, 0)))]) ?_ ?_
 rcases h.em with ⟨hc18, h⟩ | ⟨hc18, h⟩
 refine Zu hc18 Yf ?_
 obtain ⟨x19, v20, h⟩ := h
 refine Zu hc18 (Yo v20) (Zu hc18 (OV.lenSl rfl rfl) (Zu hc18 (OV.ibin (v := .bool (decide (((Sl.len x19 : Int) : Int) ≤ 8))) rfl rfl rfl) (Zt hc18 ?_)))
 exact Yj I3 (decide (((Sl.len x19 : Int) : Int) ≤ 8)) h
 refine Zk hc18 (Zk hc18 (Zk hc18 (Zk hc18 (Zn hc18 ?_))))
 exact Yj I3 false h
 intro b15 H21 h
 replace h := hR17 b15 H21 h
 refine Zm ?_
 obtain ⟨J23, h, hR24⟩ := h
 refine GL.cut (α := Bool) 4 J23 (fun b22 => [(21, .bool b22)]) ?_ ?_
 rcases h.em with ⟨hc25, h⟩ | ⟨hc25, h⟩
 refine Zu hc25 Yf ?_
 obtain ⟨x26, v27, h⟩ := h
 refine Zu hc25 (Yo v27) (GL.call h (Yt hc25) rfl Qeb (vs := [slv x26, .func (.func 152) (List.toArray []) (List.toArray [])]) rfl ?_)
 rintro _ H29 ⟨r28, rfl, h⟩
 refine Zt hc25 ?_
 exact Yj I3 r28 h
 refine Zk hc25 (Zk hc25 (Zk hc25 (Zn hc25 ?_)))
 exact Yj I3 false h
 intro b22 H30 h
 replace h := hR24 b22 H30 h
 refine Za (GL.nil ?_)
 exact Y1 I3 ⟨b22, rfl, h⟩
 refine Zo (Zi (.bool ((x3 : Int) == 3)) (Za (GL.nil (Yd h (fun hc31 h => ?_) fun hc31 h => ?_))))
 refine Zo (Zf (Yl h fun x32 h => ?_))
 refine Zv (OV.sbin (a := x32) (b := ([] : Str)) (v := .bool (x32 == ([] : Str))) rfl rfl rfl) (Zm ?_)
 obtain ⟨J35, h, hR36⟩ := h
 refine GL.cut (α := Bool) 5 J35 (fun b34 => [(32, .bool b34), (1, pv (some (b1, 0)))]) ?_ ?_
 rcases h.em with ⟨hc37, h⟩ | ⟨hc37, h⟩
 refine Zu hc37 Yf ?_
 obtain ⟨x38, v39, h⟩ := h
 refine Zu hc37 (Yo v39) (Zu hc37 (OV.lenSl rfl rfl) (Zu hc37 (OV.ibin (v := .bool (((Sl.len x38 : Int) : Int) == 1)) rfl rfl rfl) (Zt hc37 ?_)))
 exact Yj I3 (((Sl.len x38 : Int) : Int) == 1) h
 refine Zk hc37 (Zk hc37 (Zk hc37 (Zk hc37 (Zn hc37 ?_))))
 exact Yj I3 false h
 intro b34 H40 h
 replace h := hR36 b34 H40 h
 refine Zm ?_
 obtain ⟨J42, h, hR43⟩ := h
 refine GL.cut (α := Bool) 6 J42 (fun b41 => [(39, .bool b41)]) ?_ ?_
 rcases h.em with ⟨hc44, h⟩ | ⟨hc44, h⟩
 refine Zu hc44 Yf ?_
 obtain ⟨x45, v46, h⟩ := h
 refine Zu hc44 (Yo v46) ?_
 obtain ⟨p47, ha48, hb49, hc50, hd51, h⟩ := h
 refine Zu hc44 (OV.indexAddr rfl rfl rfl rfl ha48 hb49 hc50 hd51) ?_
 obtain ⟨x52, v53, h⟩ := h
 refine Zu hc44 (OV.loadT rfl rfl rfl v53) (GL.call h (Yt hc44) rfl QgX (vs := [.agg (Qa.c x52).toArray]) rfl ?_)
 rintro _ H55 ⟨r54, rfl, h⟩
 refine Zt hc44 ?_
 exact Yj I3 r54 h
 refine Zk hc44 (Zk hc44 (Zk hc44 (Zk hc44 (Zk hc44 (Zn hc44 ?_)))))
 exact Yj I3 false h
 intro b41 H56 h
 replace h := hR43 b41 H56 h
 refine Za (GL.nil ?_)
 exact Y1 I3 ⟨b41, rfl, h⟩
 refine Zo (Zi (.bool ((x3 : Int) == 4)) (Za (GL.nil (Yd h (fun hc57 h => ?_) fun hc57 h => ?_))))
 refine Zo (Zf (Yl h fun x58 h => ?_))
 refine Zc h QiB ?_
 rintro _ H61 ⟨r60, rfl, h⟩
 refine Zm ?_
 obtain ⟨J63, h, hR64⟩ := h
 refine GL.cut (α := Bool) 5 J63 (fun b62 => [(50, .bool b62), (1, pv (some (b1, 0)))]) ?_ ?_
 rcases h.em with ⟨hc65, h⟩ | ⟨hc65, h⟩
 refine Zu hc65 Yf ?_
 obtain ⟨x66, v67, h⟩ := h
 refine Zu hc65 (Yo v67) (Zu hc65 (OV.lenSl rfl rfl) (Zu hc65 (OV.ibin (v := .bool (((Sl.len x66 : Int) : Int) == 1)) rfl rfl rfl) (Zt hc65 ?_)))
 exact Yj I3 (((Sl.len x66 : Int) : Int) == 1) h
 refine Zk hc65 (Zk hc65 (Zk hc65 (Zk hc65 (Zn hc65 ?_))))
 exact Yj I3 false h
 intro b62 H68 h
 replace h := hR64 b62 H68 h
 refine Zm ?_
 obtain ⟨J70, h, hR71⟩ := h
 refine GL.cut (α := Bool) 6 J70 (fun b69 => [(57, .bool b69)]) ?_ ?_
 rcases h.em with ⟨hc72, h⟩ | ⟨hc72, h⟩
 refine Zu hc72 Yf ?_
 obtain ⟨x73, v74, h⟩ := h
 refine Zu hc72 (Yo v74) ?_
 obtain ⟨p75, ha76, hb77, hc78, hd79, h⟩ := h
 refine Zu hc72 (OV.indexAddr rfl rfl rfl rfl ha76 hb77 hc78 hd79) ?_
 obtain ⟨x80, v81, h⟩ := h
 refine Zu hc72 (OV.loadT rfl rfl rfl v81) (GL.call h (Yt hc72) rfl QgX (vs := [.agg (Qa.c x80).toArray]) rfl ?_)
 rintro _ H83 ⟨r82, rfl, h⟩
 refine Zt hc72 ?_
 exact Yj I3 r82 h
 refine Zk hc72 (Zk hc72 (Zk hc72 (Zk hc72 (Zk hc72 (Zn hc72 ?_)))))
 exact Yj I3 false h
 intro b69 H84 h
 replace h := hR71 b69 H84 h
 refine Za (GL.nil ?_)
 exact Y1 I3 ⟨b69, rfl, h⟩
 refine GC.skip_to (fun _ _ h => h) (Zo (Za (GL.nil ?_)))
 exact Y1 I3 ⟨false, rfl, h⟩
def Qjx (C : Ctx) (p_x : Qk) (K : Bool → Heap → Prop) (H : Heap) : Prop :=
 nw (Qk.c p_x) (fun b1 H2 =>
 ldL H2 ((b1, 0).1, (b1, 0).2 + 5) fun x3 =>
 K (decide (((Sl.len x3 : Int) : Int) ≤ 12)) H2) H
theorem QmB (C p_x K H) (h : Qjx C p_x K H) : Qc3 C p_x K H := by
 refine Ye Tryz.func60 rfl Tryz.ntmps60 [(0, .agg (Qk.c p_x).toArray)] (Zo (GL.box (v := .agg (Qk.c p_x).toArray) (cs := Qk.c p_x) h trivial rfl rfl rfl ?_))
 intro b1 H2 h
 refine Za (GL.nil (Zo (Zf (Yl h fun x3 h => ?_))))
 refine Zq (Zi (.bool (decide (((Sl.len x3 : Int) : Int) ≤ 12))) (Za (GL.nil ?_)))
 exact Y1 I3 ⟨(decide (((Sl.len x3 : Int) : Int) ≤ 12)), rfl, h⟩
def Qjy (C : Ctx) (p_x : Qj) (K : Bool → Heap → Prop) (H : Heap) : Prop :=
 nw (Qj.c p_x) (fun b1 H2 =>
 ldL H2 ((b1, 0).1, (b1, 0).2 + 3) fun x3 =>
 K (decide (((Sl.len x3 : Int) : Int) ≤ 12)) H2) H
theorem QmC (C p_x K H) (h : Qjy C p_x K H) : Qc4 C p_x K H := by
 refine Ye Tryz.func61 rfl Tryz.ntmps61 [(0, .agg (Qj.c p_x).toArray)] (Zo (GL.box (v := .agg (Qj.c p_x).toArray) (cs := Qj.c p_x) h trivial rfl rfl rfl ?_))
 intro b1 H2 h
 refine Za (GL.nil (Zo (Zf (Yl h fun x3 h => ?_))))
 refine Zq (Zi (.bool (decide (((Sl.len x3 : Int) : Int) ≤ 12))) (Za (GL.nil ?_)))
 exact Y1 I3 ⟨(decide (((Sl.len x3 : Int) : Int) ≤ 12)), rfl, h⟩
def QW (C : Ctx) (p_s1 : Sl) (p_s2 : Sl) (p_eq : Value) (K : Bool → Heap → Prop) (H : Heap) : Prop :=
 ift (((Sl.len p_s1 : Int) : Int) != (Sl.len p_s2 : Int))
 (K false H)
 (lp (α := Int) 0 H (fun x2 J3 H4 =>
 ift (decide ((x2 : Int) < (Sl.len p_s1 : Int)))
 (ixa p_s1 x2 fun p6 =>
 ldT H4 Ql.c (p6.1, p6.2 + (x2 : Int).toNat * 3) fun x11 =>
 nw (Ql.c Ql.zero) (fun b13 H14 =>
 stT (b13, 0) (Ql.c x11) (fun H15 =>
 ixa p_s2 x2 fun p16 =>
 ldT H15 Ql.c (p16.1, p16.2 + (x2 : Int).toNat * 3) fun x21 =>
 nw (Ql.c Ql.zero) (fun b23 H24 =>
 stT (b23, 0) (Ql.c x21) (fun H25 =>
 ldT H25 Ql.c (b13, 0) fun x26 =>
 ldT H25 Ql.c (b23, 0) fun x28 =>
 callU Tryz.prog C p_eq [.agg (Ql.c x26).toArray, .agg (Ql.c x28).toArray] H25 (fun v H31 => ∃ (r30 : Bool), v = .bool r30 ∧
 ift (!r30)
 (K false H31)
 (J3 (w .i64 (x2 + 1)) H31))) H24) H15) H14) H4)
 (K true H4)))
theorem QaN (C p_s1 p_s2 p_eq K H) (h : QW C p_s1 p_s2 p_eq K H) : Qw C p_s1 p_s2 p_eq K H := by
 refine Ye Tryz.func68 rfl Tryz.ntmps68 [(0, slv p_s1), (1, slv p_s2), (2, p_eq)] (Zo (Za (GL.nil (GC.seq (Zo (Zm (Zq (Zm (Zq (Zi (.bool (((Sl.len p_s1 : Int) : Int) != (Sl.len p_s2 : Int))) (GL.nil (Yd h (fun u1 h => ?_) fun u1 h => ?_))))))))))))
 refine Zo (Za (GL.nil ?_))
 exact Y1 I3 ⟨false, rfl, h⟩
 refine GC.skip (GC.seq (Zo (Zm (Zq (Zm (GL.nil (GC.block (Yp h (fun x2 => [(17, .int .i64 x2), (1, slv p_s2), (2, p_eq), (15, slv p_s1), (16, .int .i64 (Sl.len p_s1 : Int))]) ?_))))))))
 intro x2 H4 J3 h
 refine Zo (Zi (.bool (decide ((x2 : Int) < (Sl.len p_s1 : Int)))) (GL.nil (GC.seq (Yd h (fun u5 h => ?_) fun u5 h => ?_))))
 refine GC.skip (GC.seq (GC.block (Zo (Zm (Yx h fun p6 h => ?_)))))
 obtain ⟨x11, v12, h⟩ := h
 refine Zv (OV.loadT rfl rfl rfl v12) (GL.alloc (cs := Ql.c Ql.zero) h trivial rfl rfl rfl ?_)
 intro b13 H14 h
 refine Za (GL.storeT (p := (b13, 0)) (vs := Ql.c x11) h trivial rfl rfl rfl rfl ?_)
 intro H15 h
 refine GL.nil (Zo (Zm (Zm (Yx h fun p16 h => ?_))))
 obtain ⟨x21, v22, h⟩ := h
 refine Zv (OV.loadT rfl rfl rfl v22) (GL.alloc (cs := Ql.c Ql.zero) h trivial rfl rfl rfl ?_)
 intro b23 H24 h
 refine GL.storeT (p := (b23, 0)) (vs := Ql.c x21) h trivial rfl rfl rfl rfl ?_
 intro H25 h
 refine GL.nil (Zo (Zm ?_))
 obtain ⟨x26, v27, h⟩ := h
 refine Zv (OV.loadT rfl rfl rfl v27) ?_
 obtain ⟨x28, v29, h⟩ := h
 refine Zv (OV.loadT rfl rfl rfl v29) (GL.callU (xv := p_eq) (vs := [.agg (Ql.c x26).toArray, .agg (Ql.c x28).toArray]) h trivial rfl rfl rfl ?_)
 rintro _ H31 ⟨r30, rfl, h⟩
 refine Zv (OV.not rfl) (GL.nil (Yd h (fun u32 h => ?_) fun u32 h => ?_))
 refine Zo (Za (GL.nil ?_))
 exact Y1 I3 ⟨false, rfl, h⟩
 refine GC.skip_to (fun _ _ h => h) (GC.region (Zi (.int .i64 (w .i64 (x2 + 1))) (Zm ?_)))
 exact Yj I3 (w .i64 (x2 + 1)) h
 refine GC.exit_to (fun _ _ h => h) (Zo (Za (GL.nil ?_)))
 exact Y1 I3 ⟨true, rfl, h⟩
def Qkk (C : Ctx) (p_x : Ql) (p_y : Ql) (K : Bool → Heap → Prop) (H : Heap) : Prop :=
 nw (Ql.c p_x) (fun b1 H2 =>
 nw (Ql.c p_y) (fun b3 H4 =>
 ldS H4 ((b1, 0).1, (b1, 0).2 + 2) fun x5 =>
 ldS H4 ((b3, 0).1, (b3, 0).2 + 2) fun x7 =>
 K (x5 == x7) H4) H2) H
theorem Qns (C p_x p_y K H) (h : Qkk C p_x p_y K H) : QdL C p_x p_y K H := by
 refine Ye Tryz.func69 rfl Tryz.ntmps69 [(0, .agg (Ql.c p_x).toArray), (1, .agg (Ql.c p_y).toArray)] (Zo (GL.box (v := .agg (Ql.c p_x).toArray) (cs := Ql.c p_x) h trivial rfl rfl rfl ?_))
 intro b1 H2 h
 refine GL.box (v := .agg (Ql.c p_y).toArray) (cs := Ql.c p_y) h trivial rfl rfl rfl ?_
 intro b3 H4 h
 refine Za (GL.nil (Zo (Zf (Yl h fun x5 h => ?_))))
 refine Zf (Yl h fun x7 h => ?_)
 refine Zv (OV.sbin (a := x5) (b := x7) (v := .bool (x5 == x7)) rfl rfl rfl) (Za (GL.nil ?_))
 exact Y1 I3 ⟨(x5 == x7), rfl, h⟩
def QR (C : Ctx) (p_s1 : Sl) (p_s2 : Sl) (p_eq : Value) (K : Bool → Heap → Prop) (H : Heap) : Prop :=
 ift (((Sl.len p_s1 : Int) : Int) != (Sl.len p_s2 : Int))
 (K false H)
 (lp (α := Int) 0 H (fun x2 J3 H4 =>
 ift (decide ((x2 : Int) < (Sl.len p_s1 : Int)))
 (ixa p_s1 x2 fun p6 =>
 ldT H4 Qg.c (p6.1, p6.2 + (x2 : Int).toNat * 6) fun x11 =>
 nw (Qg.c Qg.zero) (fun b13 H14 =>
 stT (b13, 0) (Qg.c x11) (fun H15 =>
 ixa p_s2 x2 fun p16 =>
 ldT H15 Qg.c (p16.1, p16.2 + (x2 : Int).toNat * 6) fun x21 =>
 nw (Qg.c Qg.zero) (fun b23 H24 =>
 stT (b23, 0) (Qg.c x21) (fun H25 =>
 ldT H25 Qg.c (b13, 0) fun x26 =>
 ldT H25 Qg.c (b23, 0) fun x28 =>
 callU Tryz.prog C p_eq [.agg (Qg.c x26).toArray, .agg (Qg.c x28).toArray] H25 (fun v H31 => ∃ (r30 : Bool), v = .bool r30 ∧
 ift (!r30)
 (K false H31)
 (J3 (w .i64 (x2 + 1)) H31))) H24) H15) H14) H4)
 (K true H4)))
theorem QaB (C p_s1 p_s2 p_eq K H) (h : QR C p_s1 p_s2 p_eq K H) : Qv C p_s1 p_s2 p_eq K H := by
 refine Ye Tryz.func70 rfl Tryz.ntmps70 [(0, slv p_s1), (1, slv p_s2), (2, p_eq)] (Zo (Za (GL.nil (GC.seq (Zo (Zm (Zq (Zm (Zq (Zi (.bool (((Sl.len p_s1 : Int) : Int) != (Sl.len p_s2 : Int))) (GL.nil (Yd h (fun u1 h => ?_) fun u1 h => ?_))))))))))))
 refine Zo (Za (GL.nil ?_))
 exact Y1 I3 ⟨false, rfl, h⟩
 refine GC.skip (GC.seq (Zo (Zm (Zq (Zm (GL.nil (GC.block (Yp h (fun x2 => [(17, .int .i64 x2), (1, slv p_s2), (2, p_eq), (15, slv p_s1), (16, .int .i64 (Sl.len p_s1 : Int))]) ?_))))))))
 intro x2 H4 J3 h
 refine Zo (Zi (.bool (decide ((x2 : Int) < (Sl.len p_s1 : Int)))) (GL.nil (GC.seq (Yd h (fun u5 h => ?_) fun u5 h => ?_))))
 refine GC.skip (GC.seq (GC.block (Zo (Zm (Yx h fun p6 h => ?_)))))
 obtain ⟨x11, v12, h⟩ := h
 refine Zv (OV.loadT rfl rfl rfl v12) (GL.alloc (cs := Qg.c Qg.zero) h trivial rfl rfl rfl ?_)
 intro b13 H14 h
 refine Za (GL.storeT (p := (b13, 0)) (vs := Qg.c x11) h trivial rfl rfl rfl rfl ?_)
 intro H15 h
 refine GL.nil (Zo (Zm (Zm (Yx h fun p16 h => ?_))))
 obtain ⟨x21, v22, h⟩ := h
 refine Zv (OV.loadT rfl rfl rfl v22) (GL.alloc (cs := Qg.c Qg.zero) h trivial rfl rfl rfl ?_)
 intro b23 H24 h
 refine GL.storeT (p := (b23, 0)) (vs := Qg.c x21) h trivial rfl rfl rfl rfl ?_
 intro H25 h
 refine GL.nil (Zo (Zm ?_))
 obtain ⟨x26, v27, h⟩ := h
 refine Zv (OV.loadT rfl rfl rfl v27) ?_
 obtain ⟨x28, v29, h⟩ := h
 refine Zv (OV.loadT rfl rfl rfl v29) (GL.callU (xv := p_eq) (vs := [.agg (Qg.c x26).toArray, .agg (Qg.c x28).toArray]) h trivial rfl rfl rfl ?_)
 rintro _ H31 ⟨r30, rfl, h⟩
 refine Zv (OV.not rfl) (GL.nil (Yd h (fun u32 h => ?_) fun u32 h => ?_))
 refine Zo (Za (GL.nil ?_))
 exact Y1 I3 ⟨false, rfl, h⟩
 refine GC.skip_to (fun _ _ h => h) (GC.region (Zi (.int .i64 (w .i64 (x2 + 1))) (Zm ?_)))
 exact Yj I3 (w .i64 (x2 + 1)) h
 refine GC.exit_to (fun _ _ h => h) (Zo (Za (GL.nil ?_)))
 exact Y1 I3 ⟨true, rfl, h⟩
def Qkl (C : Ctx) (p_x : Qg) (p_y : Qg) (K : Bool → Heap → Prop) (H : Heap) : Prop :=
 nw (Qg.c p_x) (fun b1 H2 =>
 nw (Qg.c p_y) (fun b3 H4 =>
 ldB H4 ((b1, 0).1, (b1, 0).2 + 2) fun x5 =>
 ldB H4 ((b3, 0).1, (b3, 0).2 + 2) fun x7 =>
 jn (α := Bool) (fun b9 H17 =>
 jn (α := Bool) (fun b18 H28 =>
 jn (α := Bool) (fun b29 H39 =>
 K b29 H39)
 (fun J30 => ift b18
 (ldL H28 ((b1, 0).1, (b1, 0).2 + 5) fun x33 =>
 ldL H28 ((b3, 0).1, (b3, 0).2 + 5) fun x35 =>
 Qu C x33 x35 (.func (.func 74) (List.toArray []) (List.toArray []) : Value) (fun r37 H38 =>
 J30 r37 H38) H28)
 (J30 false H28)))
 (fun J19 => ift b9
 (ldL H17 ((b1, 0).1, (b1, 0).2 + 4) fun x22 =>
 ldL H17 ((b3, 0).1, (b3, 0).2 + 4) fun x24 =>
 QaJ C x22 x24 (fun r26 H27 =>
 J19 r26 H27) H17)
 (J19 false H17)))
 (fun J10 => ift (x5 == x7)
 (ldS H4 ((b1, 0).1, (b1, 0).2 + 3) fun x13 =>
 ldS H4 ((b3, 0).1, (b3, 0).2 + 3) fun x15 =>
 J10 (x13 == x15) H4)
 (J10 false H4))) H2) H
theorem Qnt (C p_x p_y K H) (h : Qkl C p_x p_y K H) : QdM C p_x p_y K H := by
 refine Ye Tryz.func71 rfl Tryz.ntmps71 [(0, .agg (Qg.c p_x).toArray), (1, .agg (Qg.c p_y).toArray)] (Zo (GL.box (v := .agg (Qg.c p_x).toArray) (cs := Qg.c p_x) h trivial rfl rfl rfl ?_))
 intro b1 H2 h
 refine GL.box (v := .agg (Qg.c p_y).toArray) (cs := Qg.c p_y) h trivial rfl rfl rfl ?_
 intro b3 H4 h
 refine Za (GL.nil (Zo (Zf (Yl h fun x5 h => ?_))))
 refine Zf (Yl h fun x7 h => ?_)
 refine Zv (OV.eqlBool rfl rfl rfl) (Zm ?_)
 obtain ⟨J10, h, hR11⟩ := h
 refine GL.cut (α := Bool) 6 J10 (fun b9 => [(16, .bool b9), (2, pv (some (b1, 0))), (3, pv (some (b3, 0)))]) ?_ ?_
 rcases h.em with ⟨u12, h⟩ | ⟨u12, h⟩
 refine Zu u12 Yf ?_
 obtain ⟨x13, v14, h⟩ := h
 refine Zu u12 (Yo v14) (Zu u12 Yf ?_)
 obtain ⟨x15, v16, h⟩ := h
 refine Zu u12 (Yo v16) (Zu u12 (OV.sbin (a := x13) (b := x15) (v := .bool (x13 == x15)) rfl rfl rfl) (Zt u12 ?_))
 exact Yj I3 (x13 == x15) h
 refine Zk u12 (Zk u12 (Zk u12 (Zk u12 (Zk u12 (Zn u12 ?_)))))
 exact Yj I3 false h
 intro b9 H17 h
 replace h := hR11 b9 H17 h
 refine Zm ?_
 obtain ⟨J19, h, hR20⟩ := h
 refine GL.cut (α := Bool) 6 J19 (fun b18 => [(23, .bool b18), (2, pv (some (b1, 0))), (3, pv (some (b3, 0)))]) ?_ ?_
 rcases h.em with ⟨u21, h⟩ | ⟨u21, h⟩
 refine Zu u21 Yf ?_
 obtain ⟨x22, v23, h⟩ := h
 refine Zu u21 (Yo v23) (Zu u21 Yf ?_)
 obtain ⟨x24, v25, h⟩ := h
 refine Zu u21 (Yo v25) (GL.call h (Yt u21) rfl QcT (vs := [slv x22, slv x24]) rfl ?_)
 rintro _ H27 ⟨r26, rfl, h⟩
 refine Zt u21 ?_
 exact Yj I3 r26 h
 refine Zk u21 (Zk u21 (Zk u21 (Zk u21 (Zk u21 (Zn u21 ?_)))))
 exact Yj I3 false h
 intro b18 H28 h
 replace h := hR20 b18 H28 h
 refine Zm ?_
 obtain ⟨J30, h, hR31⟩ := h
 refine GL.cut (α := Bool) 6 J30 (fun b29 => [(30, .bool b29)]) ?_ ?_
 rcases h.em with ⟨u32, h⟩ | ⟨u32, h⟩
 refine Zu u32 Yf ?_
 obtain ⟨x33, v34, h⟩ := h
 refine Zu u32 (Yo v34) (Zu u32 Yf ?_)
 obtain ⟨x35, v36, h⟩ := h
 refine Zu u32 (Yo v36) (GL.call h (Yt u32) rfl QaC (vs := [slv x33, slv x35, .func (.func 74) (List.toArray []) (List.toArray [])]) rfl ?_)
 rintro _ H38 ⟨r37, rfl, h⟩
 refine Zt u32 ?_
 exact Yj I3 r37 h
 refine Zk u32 (Zk u32 (Zk u32 (Zk u32 (Zk u32 (Zn u32 ?_)))))
 exact Yj I3 false h
 intro b29 H39 h
 replace h := hR31 b29 H39 h
 refine Za (GL.nil ?_)
 exact Y1 I3 ⟨b29, rfl, h⟩
def QcW (C : Ctx) (p_s1 : Sl) (p_s2 : Sl) (K : Bool → Heap → Prop) (H : Heap) : Prop :=
 ift (((Sl.len p_s1 : Int) : Int) != (Sl.len p_s2 : Int))
 (K false H)
 (lp (α := Int) 0 H (fun x2 J3 H4 =>
 ift (decide ((x2 : Int) < (Sl.len p_s1 : Int)))
 (ixa p_s1 x2 fun p6 =>
 ldS H4 (p6.1, p6.2 + (x2 : Int).toNat * 1) fun x11 =>
 ixa p_s2 x2 fun p13 =>
 ldS H4 (p13.1, p13.2 + (x2 : Int).toNat * 1) fun x18 =>
 ift (!(x11 == x18))
 (K false H4)
 (J3 (w .i64 (x2 + 1)) H4))
 (K true H4)))
theorem QfS (C p_s1 p_s2 K H) (h : QcW C p_s1 p_s2 K H) : QaJ C p_s1 p_s2 K H := by
 refine Ye Tryz.func72 rfl Tryz.ntmps72 [(0, slv p_s1), (1, slv p_s2)] (Zo (Za (GL.nil (GC.seq (Zo (Zm (Zq (Zm (Zq (Zi (.bool (((Sl.len p_s1 : Int) : Int) != (Sl.len p_s2 : Int))) (GL.nil (Yd h (fun u1 h => ?_) fun u1 h => ?_))))))))))))
 refine Zo (Za (GL.nil ?_))
 exact Y1 I3 ⟨false, rfl, h⟩
 refine GC.skip (GC.seq (Zo (Zm (Zq (Zm (GL.nil (GC.block (Yp h (fun x2 => [(13, .int .i64 x2), (0, slv p_s1), (1, slv p_s2), (12, .int .i64 (Sl.len p_s1 : Int))]) ?_))))))))
 intro x2 H4 J3 h
 refine Zo (Zi (.bool (decide ((x2 : Int) < (Sl.len p_s1 : Int)))) (GL.nil (GC.seq (Yd h (fun u5 h => ?_) fun u5 h => ?_))))
 refine GC.skip (GC.seq (GC.block (Zo (Zm (Za (GL.nil (GC.seq (GC.draw (by kernel_rfl) (by kernel_rfl) (GQ.val trivial rfl (OV.move (v := slv p_s1) rfl) (GQ.val trivial rfl (OV.move (v := .int .i64 x2) rfl) ?_))))))))))
 obtain ⟨p6, ha7, hb8, u9, hd10, h⟩ := h
 refine GQ.val trivial rfl (OV.indexAddr (s := p_s1) rfl rfl rfl rfl ha7 hb8 u9 hd10) ?_
 obtain ⟨x11, v12, h⟩ := h
 refine GQ.val trivial rfl (OV.load (p := (p6.1, p6.2 + (x2 : Int).toNat * 1)) rfl rfl v12) (GQ.val trivial rfl (OV.move (v := slv p_s2) rfl) (GQ.val trivial rfl (OV.move (v := .int .i64 x2) rfl) ?_))
 obtain ⟨p13, ha14, hb15, u16, hd17, h⟩ := h
 refine GQ.val trivial rfl (OV.indexAddr (s := p_s2) rfl rfl rfl rfl ha14 hb15 u16 hd17) ?_
 obtain ⟨x18, v19, h⟩ := h
 refine GQ.val trivial rfl (OV.load (p := (p13.1, p13.2 + (x2 : Int).toNat * 1)) rfl rfl v19) (GQ.val trivial rfl (OV.sbin (a := x11) (b := x18) (v := .bool (!(x11 == x18))) rfl rfl rfl) (GQ.nil (GL.nil (Yd h (fun u20 h => ?_) fun u20 h => ?_))))
 refine Zo (Za (GL.nil ?_))
 exact Y1 I3 ⟨false, rfl, h⟩
 refine GC.skip_to (fun _ _ h => h) (GC.region (Zi (.int .i64 (w .i64 (x2 + 1))) (Zm ?_)))
 exact Yj I3 (w .i64 (x2 + 1)) h
 refine GC.exit_to (fun _ _ h => h) (Zo (Za (GL.nil ?_)))
 exact Y1 I3 ⟨true, rfl, h⟩
def QP (C : Ctx) (p_s1 : Sl) (p_s2 : Sl) (p_eq : Value) (K : Bool → Heap → Prop) (H : Heap) : Prop :=
 ift (((Sl.len p_s1 : Int) : Int) != (Sl.len p_s2 : Int))
 (K false H)
 (lp (α := Int) 0 H (fun x2 J3 H4 =>
 ift (decide ((x2 : Int) < (Sl.len p_s1 : Int)))
 (ixa p_s1 x2 fun p6 =>
 ldT H4 Qe.c (p6.1, p6.2 + (x2 : Int).toNat * 2) fun x11 =>
 nw (Qe.c Qe.zero) (fun b13 H14 =>
 stT (b13, 0) (Qe.c x11) (fun H15 =>
 ixa p_s2 x2 fun p16 =>
 ldT H15 Qe.c (p16.1, p16.2 + (x2 : Int).toNat * 2) fun x21 =>
 nw (Qe.c Qe.zero) (fun b23 H24 =>
 stT (b23, 0) (Qe.c x21) (fun H25 =>
 ldT H25 Qe.c (b13, 0) fun x26 =>
 ldT H25 Qe.c (b23, 0) fun x28 =>
 callU Tryz.prog C p_eq [.agg (Qe.c x26).toArray, .agg (Qe.c x28).toArray] H25 (fun v H31 => ∃ (r30 : Bool), v = .bool r30 ∧
 ift (!r30)
 (K false H31)
 (J3 (w .i64 (x2 + 1)) H31))) H24) H15) H14) H4)
 (K true H4)))
theorem Qaz (C p_s1 p_s2 p_eq K H) (h : QP C p_s1 p_s2 p_eq K H) : Qu C p_s1 p_s2 p_eq K H := by
 refine Ye Tryz.func73 rfl Tryz.ntmps73 [(0, slv p_s1), (1, slv p_s2), (2, p_eq)] (Zo (Za (GL.nil (GC.seq (Zo (Zm (Zq (Zm (Zq (Zi (.bool (((Sl.len p_s1 : Int) : Int) != (Sl.len p_s2 : Int))) (GL.nil (Yd h (fun u1 h => ?_) fun u1 h => ?_))))))))))))
 refine Zo (Za (GL.nil ?_))
 exact Y1 I3 ⟨false, rfl, h⟩
 refine GC.skip (GC.seq (Zo (Zm (Zq (Zm (GL.nil (GC.block (Yp h (fun x2 => [(17, .int .i64 x2), (1, slv p_s2), (2, p_eq), (15, slv p_s1), (16, .int .i64 (Sl.len p_s1 : Int))]) ?_))))))))
 intro x2 H4 J3 h
 refine Zo (Zi (.bool (decide ((x2 : Int) < (Sl.len p_s1 : Int)))) (GL.nil (GC.seq (Yd h (fun u5 h => ?_) fun u5 h => ?_))))
 refine GC.skip (GC.seq (GC.block (Zo (Zm (Yx h fun p6 h => ?_)))))
 obtain ⟨x11, v12, h⟩ := h
 refine Zv (OV.loadT rfl rfl rfl v12) (GL.alloc (cs := Qe.c Qe.zero) h trivial rfl rfl rfl ?_)
 intro b13 H14 h
 refine Za (GL.storeT (p := (b13, 0)) (vs := Qe.c x11) h trivial rfl rfl rfl rfl ?_)
 intro H15 h
 refine GL.nil (Zo (Zm (Zm (Yx h fun p16 h => ?_))))
 obtain ⟨x21, v22, h⟩ := h
 refine Zv (OV.loadT rfl rfl rfl v22) (GL.alloc (cs := Qe.c Qe.zero) h trivial rfl rfl rfl ?_)
 intro b23 H24 h
 refine GL.storeT (p := (b23, 0)) (vs := Qe.c x21) h trivial rfl rfl rfl rfl ?_
 intro H25 h
 refine GL.nil (Zo (Zm ?_))
 obtain ⟨x26, v27, h⟩ := h
 refine Zv (OV.loadT rfl rfl rfl v27) ?_
 obtain ⟨x28, v29, h⟩ := h
 refine Zv (OV.loadT rfl rfl rfl v29) (GL.callU (xv := p_eq) (vs := [.agg (Qe.c x26).toArray, .agg (Qe.c x28).toArray]) h trivial rfl rfl rfl ?_)
 rintro _ H31 ⟨r30, rfl, h⟩
 refine Zv (OV.not rfl) (GL.nil (Yd h (fun u32 h => ?_) fun u32 h => ?_))
 refine Zo (Za (GL.nil ?_))
 exact Y1 I3 ⟨false, rfl, h⟩
 refine GC.skip_to (fun _ _ h => h) (GC.region (Zi (.int .i64 (w .i64 (x2 + 1))) (Zm ?_)))
 exact Yj I3 (w .i64 (x2 + 1)) h
 refine GC.exit_to (fun _ _ h => h) (Zo (Za (GL.nil ?_)))
 exact Y1 I3 ⟨true, rfl, h⟩
def QiF (C : Ctx) (p_c : Qe) (p_d : Qe) (K : Bool → Heap → Prop) (H : Heap) : Prop :=
 nw (Qe.c p_c) (fun b1 H2 =>
 nw (Qe.c p_d) (fun b3 H4 =>
 ldS H4 ((b1, 0).1, (b1, 0).2 + 0) fun x5 =>
 ldS H4 ((b3, 0).1, (b3, 0).2 + 0) fun x7 =>
 jn (α := Bool) (fun b9 H19 =>
 K b9 H19)
 (fun J10 => ift (x5 == x7)
 (ldL H4 ((b1, 0).1, (b1, 0).2 + 1) fun x13 =>
 ldL H4 ((b3, 0).1, (b3, 0).2 + 1) fun x15 =>
 Qr C x13 x15 (.func (.func 76) (List.toArray []) (List.toArray []) : Value) (fun r17 H18 =>
 J10 r17 H18) H4)
 (J10 false H4))) H2) H
theorem Ql9 (C p_c p_d K H) (h : QiF C p_c p_d K H) : Qcq C p_c p_d K H := by
 refine Ye Tryz.func74 rfl Tryz.ntmps74 [(0, .agg (Qe.c p_c).toArray), (1, .agg (Qe.c p_d).toArray)] (Zo (GL.box (v := .agg (Qe.c p_c).toArray) (cs := Qe.c p_c) h trivial rfl rfl rfl ?_))
 intro b1 H2 h
 refine GL.box (v := .agg (Qe.c p_d).toArray) (cs := Qe.c p_d) h trivial rfl rfl rfl ?_
 intro b3 H4 h
 refine Za (GL.nil (Zo (Zf (Yl h fun x5 h => ?_))))
 refine Zf (Yl h fun x7 h => ?_)
 refine Zv (OV.sbin (a := x5) (b := x7) (v := .bool (x5 == x7)) rfl rfl rfl) (Zm ?_)
 obtain ⟨J10, h, hR11⟩ := h
 refine GL.cut (α := Bool) 6 J10 (fun b9 => [(16, .bool b9)]) ?_ ?_
 rcases h.em with ⟨u12, h⟩ | ⟨u12, h⟩
 refine Zu u12 Yf ?_
 obtain ⟨x13, v14, h⟩ := h
 refine Zu u12 (Yo v14) (Zu u12 Yf ?_)
 obtain ⟨x15, v16, h⟩ := h
 refine Zu u12 (Yo v16) (GL.call h (Yt u12) rfl QK (vs := [slv x13, slv x15, .func (.func 76) (List.toArray []) (List.toArray [])]) rfl ?_)
 rintro _ H18 ⟨r17, rfl, h⟩
 refine Zt u12 ?_
 exact Yj I3 r17 h
 refine Zk u12 (Zk u12 (Zk u12 (Zk u12 (Zk u12 (Zn u12 ?_)))))
 exact Yj I3 false h
 intro b9 H19 h
 replace h := hR11 b9 H19 h
 refine Za (GL.nil ?_)
 exact Y1 I3 ⟨b9, rfl, h⟩
def QL (C : Ctx) (p_s1 : Sl) (p_s2 : Sl) (p_eq : Value) (K : Bool → Heap → Prop) (H : Heap) : Prop :=
 ift (((Sl.len p_s1 : Int) : Int) != (Sl.len p_s2 : Int))
 (K false H)
 (lp (α := Int) 0 H (fun x2 J3 H4 =>
 ift (decide ((x2 : Int) < (Sl.len p_s1 : Int)))
 (ixa p_s1 x2 fun p6 =>
 ldT H4 Qc.c (p6.1, p6.2 + (x2 : Int).toNat * 3) fun x11 =>
 nw (Qc.c Qc.zero) (fun b13 H14 =>
 stT (b13, 0) (Qc.c x11) (fun H15 =>
 ixa p_s2 x2 fun p16 =>
 ldT H15 Qc.c (p16.1, p16.2 + (x2 : Int).toNat * 3) fun x21 =>
 nw (Qc.c Qc.zero) (fun b23 H24 =>
 stT (b23, 0) (Qc.c x21) (fun H25 =>
 ldT H25 Qc.c (b13, 0) fun x26 =>
 ldT H25 Qc.c (b23, 0) fun x28 =>
 callU Tryz.prog C p_eq [.agg (Qc.c x26).toArray, .agg (Qc.c x28).toArray] H25 (fun v H31 => ∃ (r30 : Bool), v = .bool r30 ∧
 ift (!r30)
 (K false H31)
 (J3 (w .i64 (x2 + 1)) H31))) H24) H15) H14) H4)
 (K true H4)))
theorem Qaq (C p_s1 p_s2 p_eq K H) (h : QL C p_s1 p_s2 p_eq K H) : Qr C p_s1 p_s2 p_eq K H := by
 refine Ye Tryz.func75 rfl Tryz.ntmps75 [(0, slv p_s1), (1, slv p_s2), (2, p_eq)] (Zo (Za (GL.nil (GC.seq (Zo (Zm (Zq (Zm (Zq (Zi (.bool (((Sl.len p_s1 : Int) : Int) != (Sl.len p_s2 : Int))) (GL.nil (Yd h (fun u1 h => ?_) fun u1 h => ?_))))))))))))
 refine Zo (Za (GL.nil ?_))
 exact Y1 I3 ⟨false, rfl, h⟩
 refine GC.skip (GC.seq (Zo (Zm (Zq (Zm (GL.nil (GC.block (Yp h (fun x2 => [(17, .int .i64 x2), (1, slv p_s2), (2, p_eq), (15, slv p_s1), (16, .int .i64 (Sl.len p_s1 : Int))]) ?_))))))))
 intro x2 H4 J3 h
 refine Zo (Zi (.bool (decide ((x2 : Int) < (Sl.len p_s1 : Int)))) (GL.nil (GC.seq (Yd h (fun u5 h => ?_) fun u5 h => ?_))))
 refine GC.skip (GC.seq (GC.block (Zo (Zm (Yx h fun p6 h => ?_)))))
 obtain ⟨x11, v12, h⟩ := h
 refine Zv (OV.loadT rfl rfl rfl v12) (GL.alloc (cs := Qc.c Qc.zero) h trivial rfl rfl rfl ?_)
 intro b13 H14 h
 refine Za (GL.storeT (p := (b13, 0)) (vs := Qc.c x11) h trivial rfl rfl rfl rfl ?_)
 intro H15 h
 refine GL.nil (Zo (Zm (Zm (Yx h fun p16 h => ?_))))
 obtain ⟨x21, v22, h⟩ := h
 refine Zv (OV.loadT rfl rfl rfl v22) (GL.alloc (cs := Qc.c Qc.zero) h trivial rfl rfl rfl ?_)
 intro b23 H24 h
 refine GL.storeT (p := (b23, 0)) (vs := Qc.c x21) h trivial rfl rfl rfl rfl ?_
 intro H25 h
 refine GL.nil (Zo (Zm ?_))
 obtain ⟨x26, v27, h⟩ := h
 refine Zv (OV.loadT rfl rfl rfl v27) ?_
 obtain ⟨x28, v29, h⟩ := h
 refine Zv (OV.loadT rfl rfl rfl v29) (GL.callU (xv := p_eq) (vs := [.agg (Qc.c x26).toArray, .agg (Qc.c x28).toArray]) h trivial rfl rfl rfl ?_)
 rintro _ H31 ⟨r30, rfl, h⟩
 refine Zv (OV.not rfl) (GL.nil (Yd h (fun u32 h => ?_) fun u32 h => ?_))
 refine Zo (Za (GL.nil ?_))
 exact Y1 I3 ⟨false, rfl, h⟩
 refine GC.skip_to (fun _ _ h => h) (GC.region (Zi (.int .i64 (w .i64 (x2 + 1))) (Zm ?_)))
 exact Yj I3 (w .i64 (x2 + 1)) h
 refine GC.exit_to (fun _ _ h => h) (Zo (Za (GL.nil ?_)))
 exact Y1 I3 ⟨true, rfl, h⟩
def QhZ (C : Ctx) (p_a : Qc) (p_b : Qc) (K : Bool → Heap → Prop) (H : Heap) : Prop :=
 nw (Qc.c p_a) (fun b1 H2 =>
 nw (Qc.c p_b) (fun b3 H4 =>
 ldS H4 ((b1, 0).1, (b1, 0).2 + 0) fun x5 =>
 ldS H4 ((b3, 0).1, (b3, 0).2 + 0) fun x7 =>
 jn (α := Bool) (fun b9 H19 =>
 K b9 H19)
 (fun J10 => ift (x5 == x7)
 (ldT H4 Qf.c ((b1, 0).1, (b1, 0).2 + 1) fun x13 =>
 ldT H4 Qf.c ((b3, 0).1, (b3, 0).2 + 1) fun x15 =>
 QbS C x13 x15 (fun r17 H18 =>
 J10 r17 H18) H4)
 (J10 false H4))) H2) H
theorem Qly (C p_a p_b K H) (h : QhZ C p_a p_b K H) : QbX C p_a p_b K H := by
 refine Ye Tryz.func76 rfl Tryz.ntmps76 [(0, .agg (Qc.c p_a).toArray), (1, .agg (Qc.c p_b).toArray)] (Zo (GL.box (v := .agg (Qc.c p_a).toArray) (cs := Qc.c p_a) h trivial rfl rfl rfl ?_))
 intro b1 H2 h
 refine GL.box (v := .agg (Qc.c p_b).toArray) (cs := Qc.c p_b) h trivial rfl rfl rfl ?_
 intro b3 H4 h
 refine Za (GL.nil (Zo (Zf (Yl h fun x5 h => ?_))))
 refine Zf (Yl h fun x7 h => ?_)
 refine Zv (OV.sbin (a := x5) (b := x7) (v := .bool (x5 == x7)) rfl rfl rfl) (Zm ?_)
 obtain ⟨J10, h, hR11⟩ := h
 refine GL.cut (α := Bool) 6 J10 (fun b9 => [(16, .bool b9)]) ?_ ?_
 rcases h.em with ⟨u12, h⟩ | ⟨u12, h⟩
 refine Zu u12 Yf ?_
 obtain ⟨x13, v14, h⟩ := h
 refine Zu u12 (OV.loadT rfl rfl rfl v14) (Zu u12 Yf ?_)
 obtain ⟨x15, v16, h⟩ := h
 refine Zu u12 (OV.loadT rfl rfl rfl v16) (GL.call h (Yt u12) rfl QiA (vs := [.agg (Qf.c x13).toArray, .agg (Qf.c x15).toArray]) rfl ?_)
 rintro _ H18 ⟨r17, rfl, h⟩
 refine Zt u12 ?_
 exact Yj I3 r17 h
 refine Zk u12 (Zk u12 (Zk u12 (Zk u12 (Zk u12 (Zn u12 ?_)))))
 exact Yj I3 false h
 intro b9 H19 h
 replace h := hR11 b9 H19 h
 refine Za (GL.nil ?_)
 exact Y1 I3 ⟨b9, rfl, h⟩
def QX (C : Ctx) (p_s1 : Sl) (p_s2 : Sl) (p_eq : Value) (K : Bool → Heap → Prop) (H : Heap) : Prop :=
 ift (((Sl.len p_s1 : Int) : Int) != (Sl.len p_s2 : Int))
 (K false H)
 (lp (α := Int) 0 H (fun x2 J3 H4 =>
 ift (decide ((x2 : Int) < (Sl.len p_s1 : Int)))
 (ixa p_s1 x2 fun p6 =>
 ldT H4 Qh.c (p6.1, p6.2 + (x2 : Int).toNat * 6) fun x11 =>
 nw (Qh.c Qh.zero) (fun b13 H14 =>
 stT (b13, 0) (Qh.c x11) (fun H15 =>
 ixa p_s2 x2 fun p16 =>
 ldT H15 Qh.c (p16.1, p16.2 + (x2 : Int).toNat * 6) fun x21 =>
 nw (Qh.c Qh.zero) (fun b23 H24 =>
 stT (b23, 0) (Qh.c x21) (fun H25 =>
 ldT H25 Qh.c (b13, 0) fun x26 =>
 ldT H25 Qh.c (b23, 0) fun x28 =>
 callU Tryz.prog C p_eq [.agg (Qh.c x26).toArray, .agg (Qh.c x28).toArray] H25 (fun v H31 => ∃ (r30 : Bool), v = .bool r30 ∧
 ift (!r30)
 (K false H31)
 (J3 (w .i64 (x2 + 1)) H31))) H24) H15) H14) H4)
 (K true H4)))
theorem QaO (C p_s1 p_s2 p_eq K H) (h : QX C p_s1 p_s2 p_eq K H) : Qx C p_s1 p_s2 p_eq K H := by
 refine Ye Tryz.func77 rfl Tryz.ntmps77 [(0, slv p_s1), (1, slv p_s2), (2, p_eq)] (Zo (Za (GL.nil (GC.seq (Zo (Zm (Zq (Zm (Zq (Zi (.bool (((Sl.len p_s1 : Int) : Int) != (Sl.len p_s2 : Int))) (GL.nil (Yd h (fun u1 h => ?_) fun u1 h => ?_))))))))))))
 refine Zo (Za (GL.nil ?_))
 exact Y1 I3 ⟨false, rfl, h⟩
 refine GC.skip (GC.seq (Zo (Zm (Zq (Zm (GL.nil (GC.block (Yp h (fun x2 => [(17, .int .i64 x2), (1, slv p_s2), (2, p_eq), (15, slv p_s1), (16, .int .i64 (Sl.len p_s1 : Int))]) ?_))))))))
 intro x2 H4 J3 h
 refine Zo (Zi (.bool (decide ((x2 : Int) < (Sl.len p_s1 : Int)))) (GL.nil (GC.seq (Yd h (fun u5 h => ?_) fun u5 h => ?_))))
 refine GC.skip (GC.seq (GC.block (Zo (Zm (Yx h fun p6 h => ?_)))))
 obtain ⟨x11, v12, h⟩ := h
 refine Zv (OV.loadT rfl rfl rfl v12) (GL.alloc (cs := Qh.c Qh.zero) h trivial rfl rfl rfl ?_)
 intro b13 H14 h
 refine Za (GL.storeT (p := (b13, 0)) (vs := Qh.c x11) h trivial rfl rfl rfl rfl ?_)
 intro H15 h
 refine GL.nil (Zo (Zm (Zm (Yx h fun p16 h => ?_))))
 obtain ⟨x21, v22, h⟩ := h
 refine Zv (OV.loadT rfl rfl rfl v22) (GL.alloc (cs := Qh.c Qh.zero) h trivial rfl rfl rfl ?_)
 intro b23 H24 h
 refine GL.storeT (p := (b23, 0)) (vs := Qh.c x21) h trivial rfl rfl rfl rfl ?_
 intro H25 h
 refine GL.nil (Zo (Zm ?_))
 obtain ⟨x26, v27, h⟩ := h
 refine Zv (OV.loadT rfl rfl rfl v27) ?_
 obtain ⟨x28, v29, h⟩ := h
 refine Zv (OV.loadT rfl rfl rfl v29) (GL.callU (xv := p_eq) (vs := [.agg (Qh.c x26).toArray, .agg (Qh.c x28).toArray]) h trivial rfl rfl rfl ?_)
 rintro _ H31 ⟨r30, rfl, h⟩
 refine Zv (OV.not rfl) (GL.nil (Yd h (fun u32 h => ?_) fun u32 h => ?_))
 refine Zo (Za (GL.nil ?_))
 exact Y1 I3 ⟨false, rfl, h⟩
 refine GC.skip_to (fun _ _ h => h) (GC.region (Zi (.int .i64 (w .i64 (x2 + 1))) (Zm ?_)))
 exact Yj I3 (w .i64 (x2 + 1)) h
 refine GC.exit_to (fun _ _ h => h) (Zo (Za (GL.nil ?_)))
 exact Y1 I3 ⟨true, rfl, h⟩
def Qkm (C : Ctx) (p_x : Qh) (p_y : Qh) (K : Bool → Heap → Prop) (H : Heap) : Prop :=
 nw (Qh.c p_x) (fun b1 H2 =>
 nw (Qh.c p_y) (fun b3 H4 =>
 ldB H4 ((b1, 0).1, (b1, 0).2 + 2) fun x5 =>
 ldB H4 ((b3, 0).1, (b3, 0).2 + 2) fun x7 =>
 jn (α := Bool) (fun b9 H17 =>
 jn (α := Bool) (fun b18 H26 =>
 jn (α := Bool) (fun b27 H37 =>
 K b27 H37)
 (fun J28 => ift b18
 (ldL H26 ((b1, 0).1, (b1, 0).2 + 5) fun x31 =>
 ldL H26 ((b3, 0).1, (b3, 0).2 + 5) fun x33 =>
 Qr C x31 x33 (.func (.func 76) (List.toArray []) (List.toArray []) : Value) (fun r35 H36 =>
 J28 r35 H36) H26)
 (J28 false H26)))
 (fun J19 => ift b9
 (ldS H17 ((b1, 0).1, (b1, 0).2 + 4) fun x22 =>
 ldS H17 ((b3, 0).1, (b3, 0).2 + 4) fun x24 =>
 J19 (x22 == x24) H17)
 (J19 false H17)))
 (fun J10 => ift (x5 == x7)
 (ldB H4 ((b1, 0).1, (b1, 0).2 + 3) fun x13 =>
 ldB H4 ((b3, 0).1, (b3, 0).2 + 3) fun x15 =>
 J10 (x13 == x15) H4)
 (J10 false H4))) H2) H
theorem Qnu (C p_x p_y K H) (h : Qkm C p_x p_y K H) : QdN C p_x p_y K H := by
 refine Ye Tryz.func78 rfl Tryz.ntmps78 [(0, .agg (Qh.c p_x).toArray), (1, .agg (Qh.c p_y).toArray)] (Zo (GL.box (v := .agg (Qh.c p_x).toArray) (cs := Qh.c p_x) h trivial rfl rfl rfl ?_))
 intro b1 H2 h
 refine GL.box (v := .agg (Qh.c p_y).toArray) (cs := Qh.c p_y) h trivial rfl rfl rfl ?_
 intro b3 H4 h
 refine Za (GL.nil (Zo (Zf (Yl h fun x5 h => ?_))))
 refine Zf (Yl h fun x7 h => ?_)
 refine Zv (OV.eqlBool rfl rfl rfl) (Zm ?_)
 obtain ⟨J10, h, hR11⟩ := h
 refine GL.cut (α := Bool) 6 J10 (fun b9 => [(16, .bool b9), (2, pv (some (b1, 0))), (3, pv (some (b3, 0)))]) ?_ ?_
 rcases h.em with ⟨u12, h⟩ | ⟨u12, h⟩
 refine Zu u12 Yf ?_
 obtain ⟨x13, v14, h⟩ := h
 refine Zu u12 (Yo v14) (Zu u12 Yf ?_)
 obtain ⟨x15, v16, h⟩ := h
 refine Zu u12 (Yo v16) (Zu u12 (OV.eqlBool rfl rfl rfl) (Zt u12 ?_))
 exact Yj I3 (x13 == x15) h
 refine Zk u12 (Zk u12 (Zk u12 (Zk u12 (Zk u12 (Zn u12 ?_)))))
 exact Yj I3 false h
 intro b9 H17 h
 replace h := hR11 b9 H17 h
 refine Zm ?_
 obtain ⟨J19, h, hR20⟩ := h
 refine GL.cut (α := Bool) 6 J19 (fun b18 => [(23, .bool b18), (2, pv (some (b1, 0))), (3, pv (some (b3, 0)))]) ?_ ?_
 rcases h.em with ⟨u21, h⟩ | ⟨u21, h⟩
 refine Zu u21 Yf ?_
 obtain ⟨x22, v23, h⟩ := h
 refine Zu u21 (Yo v23) (Zu u21 Yf ?_)
 obtain ⟨x24, v25, h⟩ := h
 refine Zu u21 (Yo v25) (Zu u21 (OV.sbin (a := x22) (b := x24) (v := .bool (x22 == x24)) rfl rfl rfl) (Zt u21 ?_))
 exact Yj I3 (x22 == x24) h
 refine Zk u21 (Zk u21 (Zk u21 (Zk u21 (Zk u21 (Zn u21 ?_)))))
 exact Yj I3 false h
 intro b18 H26 h
 replace h := hR20 b18 H26 h
 refine Zm ?_
 obtain ⟨J28, h, hR29⟩ := h
 refine GL.cut (α := Bool) 6 J28 (fun b27 => [(30, .bool b27)]) ?_ ?_
 rcases h.em with ⟨u30, h⟩ | ⟨u30, h⟩
 refine Zu u30 Yf ?_
 obtain ⟨x31, v32, h⟩ := h
 refine Zu u30 (Yo v32) (Zu u30 Yf ?_)
 obtain ⟨x33, v34, h⟩ := h
 refine Zu u30 (Yo v34) (GL.call h (Yt u30) rfl QK (vs := [slv x31, slv x33, .func (.func 76) (List.toArray []) (List.toArray [])]) rfl ?_)
 rintro _ H36 ⟨r35, rfl, h⟩
 refine Zt u30 ?_
 exact Yj I3 r35 h
 refine Zk u30 (Zk u30 (Zk u30 (Zk u30 (Zk u30 (Zn u30 ?_)))))
 exact Yj I3 false h
 intro b27 H37 h
 replace h := hR29 b27 H37 h
 refine Za (GL.nil ?_)
 exact Y1 I3 ⟨b27, rfl, h⟩
def Qab (C : Ctx) (p_s1 : Sl) (p_s2 : Sl) (p_eq : Value) (K : Bool → Heap → Prop) (H : Heap) : Prop :=
 ift (((Sl.len p_s1 : Int) : Int) != (Sl.len p_s2 : Int))
 (K false H)
 (lp (α := Int) 0 H (fun x2 J3 H4 =>
 ift (decide ((x2 : Int) < (Sl.len p_s1 : Int)))
 (ixa p_s1 x2 fun p6 =>
 ldT H4 Qk.c (p6.1, p6.2 + (x2 : Int).toNat * 6) fun x11 =>
 nw (Qk.c Qk.zero) (fun b13 H14 =>
 stT (b13, 0) (Qk.c x11) (fun H15 =>
 ixa p_s2 x2 fun p16 =>
 ldT H15 Qk.c (p16.1, p16.2 + (x2 : Int).toNat * 6) fun x21 =>
 nw (Qk.c Qk.zero) (fun b23 H24 =>
 stT (b23, 0) (Qk.c x21) (fun H25 =>
 ldT H25 Qk.c (b13, 0) fun x26 =>
 ldT H25 Qk.c (b23, 0) fun x28 =>
 callU Tryz.prog C p_eq [.agg (Qk.c x26).toArray, .agg (Qk.c x28).toArray] H25 (fun v H31 => ∃ (r30 : Bool), v = .bool r30 ∧
 ift (!r30)
 (K false H31)
 (J3 (w .i64 (x2 + 1)) H31))) H24) H15) H14) H4)
 (K true H4)))
theorem Qby (C p_s1 p_s2 p_eq K H) (h : Qab C p_s1 p_s2 p_eq K H) : QA C p_s1 p_s2 p_eq K H := by
 refine Ye Tryz.func79 rfl Tryz.ntmps79 [(0, slv p_s1), (1, slv p_s2), (2, p_eq)] (Zo (Za (GL.nil (GC.seq (Zo (Zm (Zq (Zm (Zq (Zi (.bool (((Sl.len p_s1 : Int) : Int) != (Sl.len p_s2 : Int))) (GL.nil (Yd h (fun u1 h => ?_) fun u1 h => ?_))))))))))))
 refine Zo (Za (GL.nil ?_))
 exact Y1 I3 ⟨false, rfl, h⟩
 refine GC.skip (GC.seq (Zo (Zm (Zq (Zm (GL.nil (GC.block (Yp h (fun x2 => [(17, .int .i64 x2), (1, slv p_s2), (2, p_eq), (15, slv p_s1), (16, .int .i64 (Sl.len p_s1 : Int))]) ?_))))))))
 intro x2 H4 J3 h
 refine Zo (Zi (.bool (decide ((x2 : Int) < (Sl.len p_s1 : Int)))) (GL.nil (GC.seq (Yd h (fun u5 h => ?_) fun u5 h => ?_))))
 refine GC.skip (GC.seq (GC.block (Zo (Zm (Yx h fun p6 h => ?_)))))
 obtain ⟨x11, v12, h⟩ := h
 refine Zv (OV.loadT rfl rfl rfl v12) (GL.alloc (cs := Qk.c Qk.zero) h trivial rfl rfl rfl ?_)
 intro b13 H14 h
 refine Za (GL.storeT (p := (b13, 0)) (vs := Qk.c x11) h trivial rfl rfl rfl rfl ?_)
 intro H15 h
 refine GL.nil (Zo (Zm (Zm (Yx h fun p16 h => ?_))))
 obtain ⟨x21, v22, h⟩ := h
 refine Zv (OV.loadT rfl rfl rfl v22) (GL.alloc (cs := Qk.c Qk.zero) h trivial rfl rfl rfl ?_)
 intro b23 H24 h
 refine GL.storeT (p := (b23, 0)) (vs := Qk.c x21) h trivial rfl rfl rfl rfl ?_
 intro H25 h
 refine GL.nil (Zo (Zm ?_))
 obtain ⟨x26, v27, h⟩ := h
 refine Zv (OV.loadT rfl rfl rfl v27) ?_
 obtain ⟨x28, v29, h⟩ := h
 refine Zv (OV.loadT rfl rfl rfl v29) (GL.callU (xv := p_eq) (vs := [.agg (Qk.c x26).toArray, .agg (Qk.c x28).toArray]) h trivial rfl rfl rfl ?_)
 rintro _ H31 ⟨r30, rfl, h⟩
 refine Zv (OV.not rfl) (GL.nil (Yd h (fun u32 h => ?_) fun u32 h => ?_))
 refine Zo (Za (GL.nil ?_))
 exact Y1 I3 ⟨false, rfl, h⟩
 refine GC.skip_to (fun _ _ h => h) (GC.region (Zi (.int .i64 (w .i64 (x2 + 1))) (Zm ?_)))
 exact Yj I3 (w .i64 (x2 + 1)) h
 refine GC.exit_to (fun _ _ h => h) (Zo (Za (GL.nil ?_)))
 exact Y1 I3 ⟨true, rfl, h⟩
def Qkn (C : Ctx) (p_x : Qk) (p_y : Qk) (K : Bool → Heap → Prop) (H : Heap) : Prop :=
 nw (Qk.c p_x) (fun b1 H2 =>
 nw (Qk.c p_y) (fun b3 H4 =>
 ldS H4 ((b1, 0).1, (b1, 0).2 + 2) fun x5 =>
 ldS H4 ((b3, 0).1, (b3, 0).2 + 2) fun x7 =>
 jn (α := Bool) (fun b9 H19 =>
 jn (α := Bool) (fun b20 H30 =>
 jn (α := Bool) (fun b31 H41 =>
 K b31 H41)
 (fun J32 => ift b20
 (ldL H30 ((b1, 0).1, (b1, 0).2 + 5) fun x35 =>
 ldL H30 ((b3, 0).1, (b3, 0).2 + 5) fun x37 =>
 Qs C x35 x37 (.func (.func 84) (List.toArray []) (List.toArray []) : Value) (fun r39 H40 =>
 J32 r39 H40) H30)
 (J32 false H30)))
 (fun J21 => ift b9
 (ldL H19 ((b1, 0).1, (b1, 0).2 + 4) fun x24 =>
 ldL H19 ((b3, 0).1, (b3, 0).2 + 4) fun x26 =>
 QaJ C x24 x26 (fun r28 H29 =>
 J21 r28 H29) H19)
 (J21 false H19)))
 (fun J10 => ift (x5 == x7)
 (ldL H4 ((b1, 0).1, (b1, 0).2 + 3) fun x13 =>
 ldL H4 ((b3, 0).1, (b3, 0).2 + 3) fun x15 =>
 Qt C x13 x15 (.func (.func 82) (List.toArray []) (List.toArray []) : Value) (fun r17 H18 =>
 J10 r17 H18) H4)
 (J10 false H4))) H2) H
theorem Qnv (C p_x p_y K H) (h : Qkn C p_x p_y K H) : QdO C p_x p_y K H := by
 refine Ye Tryz.func80 rfl Tryz.ntmps80 [(0, .agg (Qk.c p_x).toArray), (1, .agg (Qk.c p_y).toArray)] (Zo (GL.box (v := .agg (Qk.c p_x).toArray) (cs := Qk.c p_x) h trivial rfl rfl rfl ?_))
 intro b1 H2 h
 refine GL.box (v := .agg (Qk.c p_y).toArray) (cs := Qk.c p_y) h trivial rfl rfl rfl ?_
 intro b3 H4 h
 refine Za (GL.nil (Zo (Zf (Yl h fun x5 h => ?_))))
 refine Zf (Yl h fun x7 h => ?_)
 refine Zv (OV.sbin (a := x5) (b := x7) (v := .bool (x5 == x7)) rfl rfl rfl) (Zm ?_)
 obtain ⟨J10, h, hR11⟩ := h
 refine GL.cut (α := Bool) 6 J10 (fun b9 => [(16, .bool b9), (2, pv (some (b1, 0))), (3, pv (some (b3, 0)))]) ?_ ?_
 rcases h.em with ⟨u12, h⟩ | ⟨u12, h⟩
 refine Zu u12 Yf ?_
 obtain ⟨x13, v14, h⟩ := h
 refine Zu u12 (Yo v14) (Zu u12 Yf ?_)
 obtain ⟨x15, v16, h⟩ := h
 refine Zu u12 (Yo v16) (GL.call h (Yt u12) rfl QJ (vs := [slv x13, slv x15, .func (.func 82) (List.toArray []) (List.toArray [])]) rfl ?_)
 rintro _ H18 ⟨r17, rfl, h⟩
 refine Zt u12 ?_
 exact Yj I3 r17 h
 refine Zk u12 (Zk u12 (Zk u12 (Zk u12 (Zk u12 (Zn u12 ?_)))))
 exact Yj I3 false h
 intro b9 H19 h
 replace h := hR11 b9 H19 h
 refine Zm ?_
 obtain ⟨J21, h, hR22⟩ := h
 refine GL.cut (α := Bool) 6 J21 (fun b20 => [(23, .bool b20), (2, pv (some (b1, 0))), (3, pv (some (b3, 0)))]) ?_ ?_
 rcases h.em with ⟨u23, h⟩ | ⟨u23, h⟩
 refine Zu u23 Yf ?_
 obtain ⟨x24, v25, h⟩ := h
 refine Zu u23 (Yo v25) (Zu u23 Yf ?_)
 obtain ⟨x26, v27, h⟩ := h
 refine Zu u23 (Yo v27) (GL.call h (Yt u23) rfl QcT (vs := [slv x24, slv x26]) rfl ?_)
 rintro _ H29 ⟨r28, rfl, h⟩
 refine Zt u23 ?_
 exact Yj I3 r28 h
 refine Zk u23 (Zk u23 (Zk u23 (Zk u23 (Zk u23 (Zn u23 ?_)))))
 exact Yj I3 false h
 intro b20 H30 h
 replace h := hR22 b20 H30 h
 refine Zm ?_
 obtain ⟨J32, h, hR33⟩ := h
 refine GL.cut (α := Bool) 6 J32 (fun b31 => [(30, .bool b31)]) ?_ ?_
 rcases h.em with ⟨u34, h⟩ | ⟨u34, h⟩
 refine Zu u34 Yf ?_
 obtain ⟨x35, v36, h⟩ := h
 refine Zu u34 (Yo v36) (Zu u34 Yf ?_)
 obtain ⟨x37, v38, h⟩ := h
 refine Zu u34 (Yo v38) (GL.call h (Yt u34) rfl QO (vs := [slv x35, slv x37, .func (.func 84) (List.toArray []) (List.toArray [])]) rfl ?_)
 rintro _ H40 ⟨r39, rfl, h⟩
 refine Zt u34 ?_
 exact Yj I3 r39 h
 refine Zk u34 (Zk u34 (Zk u34 (Zk u34 (Zk u34 (Zn u34 ?_)))))
 exact Yj I3 false h
 intro b31 H41 h
 replace h := hR33 b31 H41 h
 refine Za (GL.nil ?_)
 exact Y1 I3 ⟨b31, rfl, h⟩
def Qaa (C : Ctx) (p_s1 : Sl) (p_s2 : Sl) (p_eq : Value) (K : Bool → Heap → Prop) (H : Heap) : Prop :=
 ift (((Sl.len p_s1 : Int) : Int) != (Sl.len p_s2 : Int))
 (K false H)
 (lp (α := Int) 0 H (fun x2 J3 H4 =>
 ift (decide ((x2 : Int) < (Sl.len p_s1 : Int)))
 (ixa p_s1 x2 fun p6 =>
 ldT H4 Qa.c (p6.1, p6.2 + (x2 : Int).toNat * 9) fun x11 =>
 nw (Qa.c Qa.zero) (fun b13 H14 =>
 stT (b13, 0) (Qa.c x11) (fun H15 =>
 ixa p_s2 x2 fun p16 =>
 ldT H15 Qa.c (p16.1, p16.2 + (x2 : Int).toNat * 9) fun x21 =>
 nw (Qa.c Qa.zero) (fun b23 H24 =>
 stT (b23, 0) (Qa.c x21) (fun H25 =>
 ldT H25 Qa.c (b13, 0) fun x26 =>
 ldT H25 Qa.c (b23, 0) fun x28 =>
 callU Tryz.prog C p_eq [.agg (Qa.c x26).toArray, .agg (Qa.c x28).toArray] H25 (fun v H31 => ∃ (r30 : Bool), v = .bool r30 ∧
 ift (!r30)
 (K false H31)
 (J3 (w .i64 (x2 + 1)) H31))) H24) H15) H14) H4)
 (K true H4)))
theorem Qbx (C p_s1 p_s2 p_eq K H) (h : Qaa C p_s1 p_s2 p_eq K H) : Qt C p_s1 p_s2 p_eq K H := by
 refine Ye Tryz.func81 rfl Tryz.ntmps81 [(0, slv p_s1), (1, slv p_s2), (2, p_eq)] (Zo (Za (GL.nil (GC.seq (Zo (Zm (Zq (Zm (Zq (Zi (.bool (((Sl.len p_s1 : Int) : Int) != (Sl.len p_s2 : Int))) (GL.nil (Yd h (fun u1 h => ?_) fun u1 h => ?_))))))))))))
 refine Zo (Za (GL.nil ?_))
 exact Y1 I3 ⟨false, rfl, h⟩
 refine GC.skip (GC.seq (Zo (Zm (Zq (Zm (GL.nil (GC.block (Yp h (fun x2 => [(17, .int .i64 x2), (1, slv p_s2), (2, p_eq), (15, slv p_s1), (16, .int .i64 (Sl.len p_s1 : Int))]) ?_))))))))
 intro x2 H4 J3 h
 refine Zo (Zi (.bool (decide ((x2 : Int) < (Sl.len p_s1 : Int)))) (GL.nil (GC.seq (Yd h (fun u5 h => ?_) fun u5 h => ?_))))
 refine GC.skip (GC.seq (GC.block (Zo (Zm (Yx h fun p6 h => ?_)))))
 obtain ⟨x11, v12, h⟩ := h
 refine Zv (OV.loadT rfl rfl rfl v12) (GL.alloc (cs := Qa.c Qa.zero) h trivial rfl rfl rfl ?_)
 intro b13 H14 h
 refine Za (GL.storeT (p := (b13, 0)) (vs := Qa.c x11) h trivial rfl rfl rfl rfl ?_)
 intro H15 h
 refine GL.nil (Zo (Zm (Zm (Yx h fun p16 h => ?_))))
 obtain ⟨x21, v22, h⟩ := h
 refine Zv (OV.loadT rfl rfl rfl v22) (GL.alloc (cs := Qa.c Qa.zero) h trivial rfl rfl rfl ?_)
 intro b23 H24 h
 refine GL.storeT (p := (b23, 0)) (vs := Qa.c x21) h trivial rfl rfl rfl rfl ?_
 intro H25 h
 refine GL.nil (Zo (Zm ?_))
 obtain ⟨x26, v27, h⟩ := h
 refine Zv (OV.loadT rfl rfl rfl v27) ?_
 obtain ⟨x28, v29, h⟩ := h
 refine Zv (OV.loadT rfl rfl rfl v29) (GL.callU (xv := p_eq) (vs := [.agg (Qa.c x26).toArray, .agg (Qa.c x28).toArray]) h trivial rfl rfl rfl ?_)
 rintro _ H31 ⟨r30, rfl, h⟩
 refine Zv (OV.not rfl) (GL.nil (Yd h (fun u32 h => ?_) fun u32 h => ?_))
 refine Zo (Za (GL.nil ?_))
 exact Y1 I3 ⟨false, rfl, h⟩
 refine GC.skip_to (fun _ _ h => h) (GC.region (Zi (.int .i64 (w .i64 (x2 + 1))) (Zm ?_)))
 exact Yj I3 (w .i64 (x2 + 1)) h
 refine GC.exit_to (fun _ _ h => h) (Zo (Za (GL.nil ?_)))
 exact Y1 I3 ⟨true, rfl, h⟩
def QiJ (C : Ctx) (p_a : Qa) (p_b : Qa) (K : Bool → Heap → Prop) (H : Heap) : Prop :=
 nw (Qa.c p_a) (fun b1 H2 =>
 nw (Qa.c p_b) (fun b3 H4 =>
 ldI H4 .u8 ((b1, 0).1, (b1, 0).2 + 0) fun x5 =>
 ldI H4 .u8 ((b3, 0).1, (b3, 0).2 + 0) fun x7 =>
 jn (α := Bool) (fun b9 H17 =>
 jn (α := Bool) (fun b18 H28 =>
 jn (α := Bool) (fun b29 H39 =>
 K b29 H39)
 (fun J30 => ift b18
 (ldL H28 ((b1, 0).1, (b1, 0).2 + 8) fun x33 =>
 ldL H28 ((b3, 0).1, (b3, 0).2 + 8) fun x35 =>
 Qt C x33 x35 (.func (.func 82) (List.toArray []) (List.toArray []) : Value) (fun r37 H38 =>
 J30 r37 H38) H28)
 (J30 false H28)))
 (fun J19 => ift b9
 (ldT H17 Qb.c ((b1, 0).1, (b1, 0).2 + 4) fun x22 =>
 ldT H17 Qb.c ((b3, 0).1, (b3, 0).2 + 4) fun x24 =>
 QbA C x22 x24 (fun r26 H27 =>
 J19 r26 H27) H17)
 (J19 false H17)))
 (fun J10 => ift ((x5 : Int) == x7)
 (ldS H4 ((b1, 0).1, (b1, 0).2 + 3) fun x13 =>
 ldS H4 ((b3, 0).1, (b3, 0).2 + 3) fun x15 =>
 J10 (x13 == x15) H4)
 (J10 false H4))) H2) H
theorem Qmd (C p_a p_b K H) (h : QiJ C p_a p_b K H) : Qcv C p_a p_b K H := by
 refine Ye Tryz.func82 rfl Tryz.ntmps82 [(0, .agg (Qa.c p_a).toArray), (1, .agg (Qa.c p_b).toArray)] (Zo (GL.box (v := .agg (Qa.c p_a).toArray) (cs := Qa.c p_a) h trivial rfl rfl rfl ?_))
 intro b1 H2 h
 refine GL.box (v := .agg (Qa.c p_b).toArray) (cs := Qa.c p_b) h trivial rfl rfl rfl ?_
 intro b3 H4 h
 refine Za (GL.nil (Zo (Zf (Yl h fun x5 h => ?_))))
 refine Zf (Yl h fun x7 h => ?_)
 refine Zi (.bool ((x5 : Int) == x7)) (Zm ?_)
 obtain ⟨J10, h, hR11⟩ := h
 refine GL.cut (α := Bool) 6 J10 (fun b9 => [(16, .bool b9), (2, pv (some (b1, 0))), (3, pv (some (b3, 0)))]) ?_ ?_
 rcases h.em with ⟨u12, h⟩ | ⟨u12, h⟩
 refine Zu u12 Yf ?_
 obtain ⟨x13, v14, h⟩ := h
 refine Zu u12 (Yo v14) (Zu u12 Yf ?_)
 obtain ⟨x15, v16, h⟩ := h
 refine Zu u12 (Yo v16) (Zu u12 (OV.sbin (a := x13) (b := x15) (v := .bool (x13 == x15)) rfl rfl rfl) (Zt u12 ?_))
 exact Yj I3 (x13 == x15) h
 refine Zk u12 (Zk u12 (Zk u12 (Zk u12 (Zk u12 (Zn u12 ?_)))))
 exact Yj I3 false h
 intro b9 H17 h
 replace h := hR11 b9 H17 h
 refine Zm ?_
 obtain ⟨J19, h, hR20⟩ := h
 refine GL.cut (α := Bool) 6 J19 (fun b18 => [(23, .bool b18), (2, pv (some (b1, 0))), (3, pv (some (b3, 0)))]) ?_ ?_
 rcases h.em with ⟨u21, h⟩ | ⟨u21, h⟩
 refine Zu u21 Yf ?_
 obtain ⟨x22, v23, h⟩ := h
 refine Zu u21 (OV.loadT rfl rfl rfl v23) (Zu u21 Yf ?_)
 obtain ⟨x24, v25, h⟩ := h
 refine Zu u21 (OV.loadT rfl rfl rfl v25) (GL.call h (Yt u21) rfl QhU (vs := [.agg (Qb.c x22).toArray, .agg (Qb.c x24).toArray]) rfl ?_)
 rintro _ H27 ⟨r26, rfl, h⟩
 refine Zt u21 ?_
 exact Yj I3 r26 h
 refine Zk u21 (Zk u21 (Zk u21 (Zk u21 (Zk u21 (Zn u21 ?_)))))
 exact Yj I3 false h
 intro b18 H28 h
 replace h := hR20 b18 H28 h
 refine Zm ?_
 obtain ⟨J30, h, hR31⟩ := h
 refine GL.cut (α := Bool) 6 J30 (fun b29 => [(30, .bool b29)]) ?_ ?_
 rcases h.em with ⟨u32, h⟩ | ⟨u32, h⟩
 refine Zu u32 Yf ?_
 obtain ⟨x33, v34, h⟩ := h
 refine Zu u32 (Yo v34) (Zu u32 Yf ?_)
 obtain ⟨x35, v36, h⟩ := h
 refine Zu u32 (Yo v36) (GL.call h (Yt u32) rfl QJ (vs := [slv x33, slv x35, .func (.func 82) (List.toArray []) (List.toArray [])]) rfl ?_)
 rintro _ H38 ⟨r37, rfl, h⟩
 refine Zt u32 ?_
 exact Yj I3 r37 h
 refine Zk u32 (Zk u32 (Zk u32 (Zk u32 (Zk u32 (Zn u32 ?_)))))
 exact Yj I3 false h
 intro b29 H39 h
 replace h := hR31 b29 H39 h
 refine Za (GL.nil ?_)
 exact Y1 I3 ⟨b29, rfl, h⟩
def QQ (C : Ctx) (p_s1 : Sl) (p_s2 : Sl) (p_eq : Value) (K : Bool → Heap → Prop) (H : Heap) : Prop :=
 ift (((Sl.len p_s1 : Int) : Int) != (Sl.len p_s2 : Int))
 (K false H)
 (lp (α := Int) 0 H (fun x2 J3 H4 =>
 ift (decide ((x2 : Int) < (Sl.len p_s1 : Int)))
 (ixa p_s1 x2 fun p6 =>
 ldT H4 Qd.c (p6.1, p6.2 + (x2 : Int).toNat * 5) fun x11 =>
 nw (Qd.c Qd.zero) (fun b13 H14 =>
 stT (b13, 0) (Qd.c x11) (fun H15 =>
 ixa p_s2 x2 fun p16 =>
 ldT H15 Qd.c (p16.1, p16.2 + (x2 : Int).toNat * 5) fun x21 =>
 nw (Qd.c Qd.zero) (fun b23 H24 =>
 stT (b23, 0) (Qd.c x21) (fun H25 =>
 ldT H25 Qd.c (b13, 0) fun x26 =>
 ldT H25 Qd.c (b23, 0) fun x28 =>
 callU Tryz.prog C p_eq [.agg (Qd.c x26).toArray, .agg (Qd.c x28).toArray] H25 (fun v H31 => ∃ (r30 : Bool), v = .bool r30 ∧
 ift (!r30)
 (K false H31)
 (J3 (w .i64 (x2 + 1)) H31))) H24) H15) H14) H4)
 (K true H4)))
theorem QaA (C p_s1 p_s2 p_eq K H) (h : QQ C p_s1 p_s2 p_eq K H) : Qs C p_s1 p_s2 p_eq K H := by
 refine Ye Tryz.func83 rfl Tryz.ntmps83 [(0, slv p_s1), (1, slv p_s2), (2, p_eq)] (Zo (Za (GL.nil (GC.seq (Zo (Zm (Zq (Zm (Zq (Zi (.bool (((Sl.len p_s1 : Int) : Int) != (Sl.len p_s2 : Int))) (GL.nil (Yd h (fun u1 h => ?_) fun u1 h => ?_))))))))))))
 refine Zo (Za (GL.nil ?_))
 exact Y1 I3 ⟨false, rfl, h⟩
 refine GC.skip (GC.seq (Zo (Zm (Zq (Zm (GL.nil (GC.block (Yp h (fun x2 => [(17, .int .i64 x2), (1, slv p_s2), (2, p_eq), (15, slv p_s1), (16, .int .i64 (Sl.len p_s1 : Int))]) ?_))))))))
 intro x2 H4 J3 h
 refine Zo (Zi (.bool (decide ((x2 : Int) < (Sl.len p_s1 : Int)))) (GL.nil (GC.seq (Yd h (fun u5 h => ?_) fun u5 h => ?_))))
 refine GC.skip (GC.seq (GC.block (Zo (Zm (Yx h fun p6 h => ?_)))))
 obtain ⟨x11, v12, h⟩ := h
 refine Zv (OV.loadT rfl rfl rfl v12) (GL.alloc (cs := Qd.c Qd.zero) h trivial rfl rfl rfl ?_)
 intro b13 H14 h
 refine Za (GL.storeT (p := (b13, 0)) (vs := Qd.c x11) h trivial rfl rfl rfl rfl ?_)
 intro H15 h
 refine GL.nil (Zo (Zm (Zm (Yx h fun p16 h => ?_))))
 obtain ⟨x21, v22, h⟩ := h
 refine Zv (OV.loadT rfl rfl rfl v22) (GL.alloc (cs := Qd.c Qd.zero) h trivial rfl rfl rfl ?_)
 intro b23 H24 h
 refine GL.storeT (p := (b23, 0)) (vs := Qd.c x21) h trivial rfl rfl rfl rfl ?_
 intro H25 h
 refine GL.nil (Zo (Zm ?_))
 obtain ⟨x26, v27, h⟩ := h
 refine Zv (OV.loadT rfl rfl rfl v27) ?_
 obtain ⟨x28, v29, h⟩ := h
 refine Zv (OV.loadT rfl rfl rfl v29) (GL.callU (xv := p_eq) (vs := [.agg (Qd.c x26).toArray, .agg (Qd.c x28).toArray]) h trivial rfl rfl rfl ?_)
 rintro _ H31 ⟨r30, rfl, h⟩
 refine Zv (OV.not rfl) (GL.nil (Yd h (fun u32 h => ?_) fun u32 h => ?_))
 refine Zo (Za (GL.nil ?_))
 exact Y1 I3 ⟨false, rfl, h⟩
 refine GC.skip_to (fun _ _ h => h) (GC.region (Zi (.int .i64 (w .i64 (x2 + 1))) (Zm ?_)))
 exact Yj I3 (w .i64 (x2 + 1)) h
 refine GC.exit_to (fun _ _ h => h) (Zo (Za (GL.nil ?_)))
 exact Y1 I3 ⟨true, rfl, h⟩
def QgF (C : Ctx) (p_a : Qd) (p_b : Qd) (K : Bool → Heap → Prop) (H : Heap) : Prop :=
 nw (Qd.c p_a) (fun b1 H2 =>
 nw (Qd.c p_b) (fun b3 H4 =>
 ldI H4 .u8 ((b1, 0).1, (b1, 0).2 + 0) fun x5 =>
 ldI H4 .u8 ((b3, 0).1, (b3, 0).2 + 0) fun x7 =>
 jn (α := Bool) (fun b9 H17 =>
 jn (α := Bool) (fun b18 H28 =>
 K b18 H28)
 (fun J19 => ift b9
 (ldL H17 ((b1, 0).1, (b1, 0).2 + 4) fun x22 =>
 ldL H17 ((b3, 0).1, (b3, 0).2 + 4) fun x24 =>
 Qt C x22 x24 (.func (.func 82) (List.toArray []) (List.toArray []) : Value) (fun r26 H27 =>
 J19 r26 H27) H17)
 (J19 false H17)))
 (fun J10 => ift ((x5 : Int) == x7)
 (ldS H4 ((b1, 0).1, (b1, 0).2 + 3) fun x13 =>
 ldS H4 ((b3, 0).1, (b3, 0).2 + 3) fun x15 =>
 J10 (x13 == x15) H4)
 (J10 false H4))) H2) H
theorem QkD (C p_a p_b K H) (h : QgF C p_a p_b K H) : Qbv C p_a p_b K H := by
 refine Ye Tryz.func84 rfl Tryz.ntmps84 [(0, .agg (Qd.c p_a).toArray), (1, .agg (Qd.c p_b).toArray)] (Zo (GL.box (v := .agg (Qd.c p_a).toArray) (cs := Qd.c p_a) h trivial rfl rfl rfl ?_))
 intro b1 H2 h
 refine GL.box (v := .agg (Qd.c p_b).toArray) (cs := Qd.c p_b) h trivial rfl rfl rfl ?_
 intro b3 H4 h
 refine Za (GL.nil (Zo (Zf (Yl h fun x5 h => ?_))))
 refine Zf (Yl h fun x7 h => ?_)
 refine Zi (.bool ((x5 : Int) == x7)) (Zm ?_)
 obtain ⟨J10, h, hR11⟩ := h
 refine GL.cut (α := Bool) 6 J10 (fun b9 => [(16, .bool b9), (2, pv (some (b1, 0))), (3, pv (some (b3, 0)))]) ?_ ?_
 rcases h.em with ⟨u12, h⟩ | ⟨u12, h⟩
 refine Zu u12 Yf ?_
 obtain ⟨x13, v14, h⟩ := h
 refine Zu u12 (Yo v14) (Zu u12 Yf ?_)
 obtain ⟨x15, v16, h⟩ := h
 refine Zu u12 (Yo v16) (Zu u12 (OV.sbin (a := x13) (b := x15) (v := .bool (x13 == x15)) rfl rfl rfl) (Zt u12 ?_))
 exact Yj I3 (x13 == x15) h
 refine Zk u12 (Zk u12 (Zk u12 (Zk u12 (Zk u12 (Zn u12 ?_)))))
 exact Yj I3 false h
 intro b9 H17 h
 replace h := hR11 b9 H17 h
 refine Zm ?_
 obtain ⟨J19, h, hR20⟩ := h
 refine GL.cut (α := Bool) 6 J19 (fun b18 => [(23, .bool b18)]) ?_ ?_
 rcases h.em with ⟨u21, h⟩ | ⟨u21, h⟩
 refine Zu u21 Yf ?_
 obtain ⟨x22, v23, h⟩ := h
 refine Zu u21 (Yo v23) (Zu u21 Yf ?_)
 obtain ⟨x24, v25, h⟩ := h
 refine Zu u21 (Yo v25) (GL.call h (Yt u21) rfl QJ (vs := [slv x22, slv x24, .func (.func 82) (List.toArray []) (List.toArray [])]) rfl ?_)
 rintro _ H27 ⟨r26, rfl, h⟩
 refine Zt u21 ?_
 exact Yj I3 r26 h
 refine Zk u21 (Zk u21 (Zk u21 (Zk u21 (Zk u21 (Zn u21 ?_)))))
 exact Yj I3 false h
 intro b18 H28 h
 replace h := hR20 b18 H28 h
 refine Za (GL.nil ?_)
 exact Y1 I3 ⟨b18, rfl, h⟩
def Q2 (C : Ctx) (p_s1 : Sl) (p_s2 : Sl) (p_eq : Value) (K : Bool → Heap → Prop) (H : Heap) : Prop :=
 ift (((Sl.len p_s1 : Int) : Int) != (Sl.len p_s2 : Int))
 (K false H)
 (lp (α := Int) 0 H (fun x2 J3 H4 =>
 ift (decide ((x2 : Int) < (Sl.len p_s1 : Int)))
 (ixa p_s1 x2 fun p6 =>
 ldT H4 Qj.c (p6.1, p6.2 + (x2 : Int).toNat * 4) fun x11 =>
 nw (Qj.c Qj.zero) (fun b13 H14 =>
 stT (b13, 0) (Qj.c x11) (fun H15 =>
 ixa p_s2 x2 fun p16 =>
 ldT H15 Qj.c (p16.1, p16.2 + (x2 : Int).toNat * 4) fun x21 =>
 nw (Qj.c Qj.zero) (fun b23 H24 =>
 stT (b23, 0) (Qj.c x21) (fun H25 =>
 ldT H25 Qj.c (b13, 0) fun x26 =>
 ldT H25 Qj.c (b23, 0) fun x28 =>
 callU Tryz.prog C p_eq [.agg (Qj.c x26).toArray, .agg (Qj.c x28).toArray] H25 (fun v H31 => ∃ (r30 : Bool), v = .bool r30 ∧
 ift (!r30)
 (K false H31)
 (J3 (w .i64 (x2 + 1)) H31))) H24) H15) H14) H4)
 (K true H4)))
theorem Qbb (C p_s1 p_s2 p_eq K H) (h : Q2 C p_s1 p_s2 p_eq K H) : Qy C p_s1 p_s2 p_eq K H := by
 refine Ye Tryz.func85 rfl Tryz.ntmps85 [(0, slv p_s1), (1, slv p_s2), (2, p_eq)] (Zo (Za (GL.nil (GC.seq (Zo (Zm (Zq (Zm (Zq (Zi (.bool (((Sl.len p_s1 : Int) : Int) != (Sl.len p_s2 : Int))) (GL.nil (Yd h (fun u1 h => ?_) fun u1 h => ?_))))))))))))
 refine Zo (Za (GL.nil ?_))
 exact Y1 I3 ⟨false, rfl, h⟩
 refine GC.skip (GC.seq (Zo (Zm (Zq (Zm (GL.nil (GC.block (Yp h (fun x2 => [(17, .int .i64 x2), (1, slv p_s2), (2, p_eq), (15, slv p_s1), (16, .int .i64 (Sl.len p_s1 : Int))]) ?_))))))))
 intro x2 H4 J3 h
 refine Zo (Zi (.bool (decide ((x2 : Int) < (Sl.len p_s1 : Int)))) (GL.nil (GC.seq (Yd h (fun u5 h => ?_) fun u5 h => ?_))))
 refine GC.skip (GC.seq (GC.block (Zo (Zm (Yx h fun p6 h => ?_)))))
 obtain ⟨x11, v12, h⟩ := h
 refine Zv (OV.loadT rfl rfl rfl v12) (GL.alloc (cs := Qj.c Qj.zero) h trivial rfl rfl rfl ?_)
 intro b13 H14 h
 refine Za (GL.storeT (p := (b13, 0)) (vs := Qj.c x11) h trivial rfl rfl rfl rfl ?_)
 intro H15 h
 refine GL.nil (Zo (Zm (Zm (Yx h fun p16 h => ?_))))
 obtain ⟨x21, v22, h⟩ := h
 refine Zv (OV.loadT rfl rfl rfl v22) (GL.alloc (cs := Qj.c Qj.zero) h trivial rfl rfl rfl ?_)
 intro b23 H24 h
 refine GL.storeT (p := (b23, 0)) (vs := Qj.c x21) h trivial rfl rfl rfl rfl ?_
 intro H25 h
 refine GL.nil (Zo (Zm ?_))
 obtain ⟨x26, v27, h⟩ := h
 refine Zv (OV.loadT rfl rfl rfl v27) ?_
 obtain ⟨x28, v29, h⟩ := h
 refine Zv (OV.loadT rfl rfl rfl v29) (GL.callU (xv := p_eq) (vs := [.agg (Qj.c x26).toArray, .agg (Qj.c x28).toArray]) h trivial rfl rfl rfl ?_)
 rintro _ H31 ⟨r30, rfl, h⟩
 refine Zv (OV.not rfl) (GL.nil (Yd h (fun u32 h => ?_) fun u32 h => ?_))
 refine Zo (Za (GL.nil ?_))
 exact Y1 I3 ⟨false, rfl, h⟩
 refine GC.skip_to (fun _ _ h => h) (GC.region (Zi (.int .i64 (w .i64 (x2 + 1))) (Zm ?_)))
 exact Yj I3 (w .i64 (x2 + 1)) h
 refine GC.exit_to (fun _ _ h => h) (Zo (Za (GL.nil ?_)))
 exact Y1 I3 ⟨true, rfl, h⟩
def Qko (C : Ctx) (p_x : Qj) (p_y : Qj) (K : Bool → Heap → Prop) (H : Heap) : Prop :=
 nw (Qj.c p_x) (fun b1 H2 =>
 nw (Qj.c p_y) (fun b3 H4 =>
 ldS H4 ((b1, 0).1, (b1, 0).2 + 2) fun x5 =>
 ldS H4 ((b3, 0).1, (b3, 0).2 + 2) fun x7 =>
 jn (α := Bool) (fun b9 H19 =>
 K b9 H19)
 (fun J10 => ift (x5 == x7)
 (ldL H4 ((b1, 0).1, (b1, 0).2 + 3) fun x13 =>
 ldL H4 ((b3, 0).1, (b3, 0).2 + 3) fun x15 =>
 Qs C x13 x15 (.func (.func 84) (List.toArray []) (List.toArray []) : Value) (fun r17 H18 =>
 J10 r17 H18) H4)
 (J10 false H4))) H2) H
theorem Qnw (C p_x p_y K H) (h : Qko C p_x p_y K H) : QdP C p_x p_y K H := by
 refine Ye Tryz.func86 rfl Tryz.ntmps86 [(0, .agg (Qj.c p_x).toArray), (1, .agg (Qj.c p_y).toArray)] (Zo (GL.box (v := .agg (Qj.c p_x).toArray) (cs := Qj.c p_x) h trivial rfl rfl rfl ?_))
 intro b1 H2 h
 refine GL.box (v := .agg (Qj.c p_y).toArray) (cs := Qj.c p_y) h trivial rfl rfl rfl ?_
 intro b3 H4 h
 refine Za (GL.nil (Zo (Zf (Yl h fun x5 h => ?_))))
 refine Zf (Yl h fun x7 h => ?_)
 refine Zv (OV.sbin (a := x5) (b := x7) (v := .bool (x5 == x7)) rfl rfl rfl) (Zm ?_)
 obtain ⟨J10, h, hR11⟩ := h
 refine GL.cut (α := Bool) 6 J10 (fun b9 => [(16, .bool b9)]) ?_ ?_
 rcases h.em with ⟨u12, h⟩ | ⟨u12, h⟩
 refine Zu u12 Yf ?_
 obtain ⟨x13, v14, h⟩ := h
 refine Zu u12 (Yo v14) (Zu u12 Yf ?_)
 obtain ⟨x15, v16, h⟩ := h
 refine Zu u12 (Yo v16) (GL.call h (Yt u12) rfl QO (vs := [slv x13, slv x15, .func (.func 84) (List.toArray []) (List.toArray [])]) rfl ?_)
 rintro _ H18 ⟨r17, rfl, h⟩
 refine Zt u12 ?_
 exact Yj I3 r17 h
 refine Zk u12 (Zk u12 (Zk u12 (Zk u12 (Zk u12 (Zn u12 ?_)))))
 exact Yj I3 false h
 intro b9 H19 h
 replace h := hR11 b9 H19 h
 refine Za (GL.nil ?_)
 exact Y1 I3 ⟨b9, rfl, h⟩
def Qlo (C : Ctx) (p_e : Qa) (K : Int → Heap → Prop) (H : Heap) : Prop :=
 nw (Qa.c p_e) (fun b1 H2 =>
 ldL H2 ((b1, 0).1, (b1, 0).2 + 8) fun x3 =>
 QH C x3 (.func (.func 91) (List.toArray []) (List.toArray []) : Value) (fun r5 H6 =>
 K (w .i64 (1 + r5)) H6) H2) H
theorem Qog (C p_e K H) (h : Qlo C p_e K H) : Qdy C p_e K H := by
 refine Ye Tryz.func91 rfl Tryz.ntmps91 [(0, .agg (Qa.c p_e).toArray)] (Zo (GL.box (v := .agg (Qa.c p_e).toArray) (cs := Qa.c p_e) h trivial rfl rfl rfl ?_))
 intro b1 H2 h
 refine Za (GL.nil (Zo (Zf (Yl h fun x3 h => ?_))))
 refine Zc h Qcx ?_
 rintro _ H6 ⟨r5, rfl, h⟩
 refine Zi (.int .i64 (w .i64 (1 + r5))) (Za (GL.nil ?_))
 exact Y1 I3 ⟨(w .i64 (1 + r5)), rfl, h⟩
def QlY (C : Ctx) (p_e : Qa) (K : Bool → Heap → Prop) (H : Heap) : Prop :=
 nw (Qa.c p_e) (fun b1 H2 =>
 ldT H2 Qa.c (b1, 0) fun x3 =>
 QcK C x3 false (fun r5 H6 =>
 K r5 H6) H2) H
theorem QoZ (C p_e K H) (h : QlY C p_e K H) : Qcb C p_e K H := by
 refine Ye Tryz.func92 rfl Tryz.ntmps92 [(0, .agg (Qa.c p_e).toArray)] (Zo (GL.box (v := .agg (Qa.c p_e).toArray) (cs := Qa.c p_e) h trivial rfl rfl rfl ?_))
 intro b1 H2 h
 refine Za (GL.nil (Zo ?_))
 obtain ⟨x3, v4, h⟩ := h
 refine Zv (OV.loadT rfl rfl rfl v4) (Zc h Qjm ?_)
 rintro _ H6 ⟨r5, rfl, h⟩
 refine Za (GL.nil ?_)
 exact Y1 I3 ⟨r5, rfl, h⟩
def QgH (C : Ctx) (p_w : Option (Nat × Nat)) (p_e : Qa) (K : Heap → Prop) (H : Heap) : Prop :=
 nw (Qa.c p_e) (fun b1 H2 =>
 ldI H2 .u8 ((b1, 0).1, (b1, 0).2 + 0) fun x3 =>
 ift ((x3 : Int) == 1)
 (dr H2 fun Hs6 =>
 nck p_w fun p8 =>
 ldT Hs6 Qb.c ((b1, 0).1, (b1, 0).2 + 4) fun x10 =>
 Qje C x10 (fun r13 H14 =>
 Heap.le Hs6 H14 ∧
 Qm C (some (p8.1, p8.2 + 0)) r13 (fun r16 r17 H18 =>
 Heap.le Hs6 H18 ∧
 K H18) H14) H2)
 (ift ((x3 : Int) == 2)
 (dr H2 fun Hs20 =>
 nck p_w fun p22 =>
 ldS Hs20 ((b1, 0).1, (b1, 0).2 + 3) fun x24 =>
 Qm C (some (p22.1, p22.2 + 0)) x24 (fun r27 r28 H29 =>
 Heap.le Hs20 H29 ∧
 K H29) H2)
 (ift ((x3 : Int) == 3)
 (nck p_w fun p31 =>
 Qo C (some (p31.1, p31.2 + 0)) 95 (fun r33 H34 =>
 K H34) H2)
 (ift ((x3 : Int) == 4)
 (ldL H2 ((b1, 0).1, (b1, 0).2 + 8) fun x36 =>
 QE C p_w x36 (.func (.func 93) (List.toArray [pv p_w]) (List.toArray []) : Value) (fun H38 =>
 K H38) H2)
 (ift ((x3 : Int) == 5)
 (dr H2 fun Hs40 =>
 nck p_w fun p42 =>
 ldS Hs40 ((b1, 0).1, (b1, 0).2 + 3) fun x44 =>
 Qm C (some (p42.1, p42.2 + 0)) x44 (fun r47 r48 H49 =>
 Heap.le Hs40 H49 ∧
 ldL H49 ((b1, 0).1, (b1, 0).2 + 8) fun x50 =>
 ift (decide (((Sl.len x50 : Int) : Int) > 0))
 (ldL H49 ((b1, 0).1, (b1, 0).2 + 8) fun x53 =>
 QE C p_w x53 (.func (.func 93) (List.toArray [pv p_w]) (List.toArray []) : Value) (fun H55 =>
 K H55) H49)
 (K H49)) H2)
 (ift ((x3 : Int) == 6)
 (ldT H2 Qa.c (b1, 0) fun x57 =>
 QeZ C p_w x57 (fun H59 =>
 K H59) H2)
 (ift ((x3 : Int) == 7)
 (ldT H2 Qa.c (b1, 0) fun x61 =>
 Qes C p_w x61 (fun H63 =>
 K H63) H2)
 (ift ((x3 : Int) == 8)
 (nw ([sv [40, 105, 102, 32], sv [32, 116, 104, 101, 110, 32], sv [32, 101, 108, 115, 101, 32]]) (fun b65 H66 =>
 lp (α := Int) 0 H66 (fun x67 J68 H69 =>
 ift (decide ((x67 : Int) < (Sl.len (Sl.of (some (b65, 0)) 3 3) : Int)))
 (ixa (Sl.of (some (b65, 0)) 3 3) x67 fun p71 =>
 ldS H69 (p71.1, p71.2 + (x67 : Int).toNat * 1) fun x76 =>
 nck p_w fun p78 =>
 Qm C (some (p78.1, p78.2 + 0)) x76 (fun r80 r81 H82 =>
 ldL H82 ((b1, 0).1, (b1, 0).2 + 8) fun x83 =>
 ixa x83 x67 fun p85 =>
 ldT H82 Qa.c (p85.1, p85.2 + (x67 : Int).toNat * 9) fun x90 =>
 Q4 C p_w x90 (fun H92 =>
 J68 (w .i64 (x67 + 1)) H92) H82) H69)
 (nck p_w fun p93 =>
 Qo C (some (p93.1, p93.2 + 0)) 41 (fun r95 H96 =>
 K H96) H69))) H2)
 (K H2))))))))) H
theorem QkF (C p_w p_e K H) (h : QgH C p_w p_e K H) : Q4 C p_w p_e K H := by
 refine Ye Tryz.func93 rfl Tryz.ntmps93 [(0, pv p_w), (1, .agg (Qa.c p_e).toArray)] (Zo (GL.box (v := .agg (Qa.c p_e).toArray) (cs := Qa.c p_e) h trivial rfl rfl rfl ?_))
 intro b1 H2 h
 refine GL.nil (Zo (Zf (Yl h fun x3 h => ?_)))
 refine GL.nil (GC.block (Zo (Zi (.bool ((x3 : Int) == 1)) (Za (GL.nil (Yd h (fun u5 h => ?_) fun u5 h => ?_))))))
 obtain ⟨Hs6, hle7, h⟩ := h
 refine GC.any (Hs := Hs6) (by kernel_rfl) hle7 (Zp 0 rfl Ym ?_)
 obtain ⟨p8, hp9, h⟩ := h
 refine Zp 1 rfl (OV.nilCheck (q := p_w) rfl hp9) (Zp 2 rfl Yf (Zp 3 rfl Yf ?_))
 obtain ⟨x10, v11, h⟩ := h
 refine Zp 4 rfl (OV.loadT rfl rfl rfl v11) (GA.eff 5 rfl (by kernel_rfl) (Zc h QoK ?_))
 rintro _ H14 ⟨r13, rfl, h⟩
 obtain ⟨hle12, h⟩ := h
 refine GA.back hle12 (GA.eff 6 rfl (by kernel_rfl) (Zc h Qn ?_))
 rintro _ H18 ⟨r16, r17, rfl, h⟩
 obtain ⟨hle15, h⟩ := h
 refine GA.back hle15 (GA.done (by kernel_rfl) ?_)
 exact GL.ends (fun _ _ hf hs => QC rfl hf hs ⟨rfl, h⟩)
 refine Zo (Zi (.bool ((x3 : Int) == 2)) (Za (GL.nil (Yd h (fun u19 h => ?_) fun u19 h => ?_))))
 obtain ⟨Hs20, hle21, h⟩ := h
 refine GC.any (Hs := Hs20) (by kernel_rfl) hle21 (Zp 0 rfl Ym ?_)
 obtain ⟨p22, hp23, h⟩ := h
 refine Zp 1 rfl (OV.nilCheck (q := p_w) rfl hp23) (Zp 2 rfl Yf (Zp 3 rfl Yf ?_))
 obtain ⟨x24, v25, h⟩ := h
 refine Zp 4 rfl (Yo v25) (GA.eff 5 rfl (by kernel_rfl) (Zc h Qn ?_))
 rintro _ H29 ⟨r27, r28, rfl, h⟩
 obtain ⟨hle26, h⟩ := h
 refine GA.back hle26 (GA.done (by kernel_rfl) ?_)
 exact GL.ends (fun _ _ hf hs => QC rfl hf hs ⟨rfl, h⟩)
 refine Zo (Zi (.bool ((x3 : Int) == 3)) (Za (GL.nil (Yd h (fun u30 h => ?_) fun u30 h => ?_))))
 refine GC.region (Zm ?_)
 obtain ⟨p31, hp32, h⟩ := h
 refine Zv (OV.nilCheck (q := p_w) rfl hp32) (Zf (Zc h Qq ?_))
 rintro _ H34 ⟨r33, rfl, h⟩
 exact GL.ends (fun _ _ hf hs => QC rfl hf hs ⟨rfl, h⟩)
 refine Zo (Zi (.bool ((x3 : Int) == 4)) (Za (GL.nil (Yd h (fun u35 h => ?_) fun u35 h => ?_))))
 refine GC.region (Zm (Zf (Yl h fun x36 h => ?_)))
 refine Zm (Zv (OV.makeFunc (vs := [pv p_w]) (us := []) rfl rfl) (Zc h QZ ?_))
 rintro _ H38 ⟨rfl, h⟩
 exact GL.ends (fun _ _ hf hs => QC rfl hf hs ⟨rfl, h⟩)
 refine Zo (Zi (.bool ((x3 : Int) == 5)) (Za (GL.nil (Yd h (fun u39 h => ?_) fun u39 h => ?_))))
 refine GC.seq ?_
 obtain ⟨Hs40, hle41, h⟩ := h
 refine GC.any (Hs := Hs40) (by kernel_rfl) hle41 (Zp 0 rfl Ym ?_)
 obtain ⟨p42, hp43, h⟩ := h
 refine Zp 1 rfl (OV.nilCheck (q := p_w) rfl hp43) (Zp 2 rfl Yf (Zp 3 rfl Yf ?_))
 obtain ⟨x44, v45, h⟩ := h
 refine Zp 4 rfl (Yo v45) (GA.eff 5 rfl (by kernel_rfl) (Zc h Qn ?_))
 rintro _ H49 ⟨r47, r48, rfl, h⟩
 obtain ⟨hle46, h⟩ := h
 refine GA.back hle46 (GA.done (by kernel_rfl) (GL.nil (Zo (Zf (Yl h fun x50 h => ?_)))))
 refine Zq (Zi (.bool (decide (((Sl.len x50 : Int) : Int) > 0))) (GL.nil (Yd h (fun u52 h => ?_) fun u52 h => ?_)))
 refine GC.region (Zm (Zf (Yl h fun x53 h => ?_)))
 refine Zm (Zv (OV.makeFunc (vs := [pv p_w]) (us := []) rfl rfl) (Zc h QZ ?_))
 rintro _ H55 ⟨rfl, h⟩
 exact GL.ends (fun _ _ hf hs => QC rfl hf hs ⟨rfl, h⟩)
 exact GC.ends (fun _ _ hf hs => QC rfl hf hs ⟨rfl, h⟩)
 refine Zo (Zi (.bool ((x3 : Int) == 6)) (Za (GL.nil (Yd h (fun u56 h => ?_) fun u56 h => ?_))))
 refine GC.region (Zm ?_)
 obtain ⟨x57, v58, h⟩ := h
 refine Zv (OV.loadT rfl rfl rfl v58) (Zc h QkM ?_)
 rintro _ H59 ⟨rfl, h⟩
 exact GL.ends (fun _ _ hf hs => QC rfl hf hs ⟨rfl, h⟩)
 refine Zo (Zi (.bool ((x3 : Int) == 7)) (Za (GL.nil (Yd h (fun u60 h => ?_) fun u60 h => ?_))))
 refine GC.region (Zm ?_)
 obtain ⟨x61, v62, h⟩ := h
 refine Zv (OV.loadT rfl rfl rfl v62) (Zc h QjY ?_)
 rintro _ H63 ⟨rfl, h⟩
 exact GL.ends (fun _ _ hf hs => QC rfl hf hs ⟨rfl, h⟩)
 refine Zo (Zi (.bool ((x3 : Int) == 8)) (Za (GL.nil (Yd h (fun u64 h => ?_) fun u64 h => ?_))))
 refine GC.seq (Zo (GL.buildSlice (cs := [sv [40, 105, 102, 32], sv [32, 116, 104, 101, 110, 32], sv [32, 101, 108, 115, 101, 32]]) h trivial rfl (vs := [(0, sv [40, 105, 102, 32]), (1, sv [32, 116, 104, 101, 110, 32]), (2, sv [32, 101, 108, 115, 101, 32])]) rfl ⟨9, fun _ => by kernel_rfl⟩ ?_))
 intro b65 H66 h
 refine Zq (Zm (GL.nil (GC.block (Yp h (fun x67 => [(71, .int .i64 x67), (0, pv p_w), (3, pv (some (b1, 0))), (69, slv (Sl.of (some (b65, 0)) 3 3)), (70, .int .i64 (Sl.len (Sl.of (some (b65, 0)) 3 3) : Int))]) ?_))))
 intro x67 H69 J68 h
 refine Zo (Zi (.bool (decide ((x67 : Int) < (Sl.len (Sl.of (some (b65, 0)) 3 3) : Int)))) (GL.nil (GC.seq (Yd h (fun u70 h => ?_) fun u70 h => ?_))))
 refine GC.skip (GC.seq (GC.block (Zo (Zm (Yx h fun p71 h => ?_)))))
 refine Yl h fun x76 h => ?_
 refine Za (Za (GL.nil (Zo (Zm ?_))))
 obtain ⟨p78, hp79, h⟩ := h
 refine Zv (OV.nilCheck (q := p_w) rfl hp79) (Zf (Zm (Zc h Qn ?_)))
 rintro _ H82 ⟨r80, r81, rfl, h⟩
 refine GL.nil (GC.region (Zm (Zf (Yl h fun x83 h => ?_))))
 refine Zm (Yx h fun p85 h => ?_)
 obtain ⟨x90, v91, h⟩ := h
 refine Zv (OV.loadT rfl rfl rfl v91) (Zc h Q0 ?_)
 rintro _ H92 ⟨rfl, h⟩
 refine GL.nil_to (fun _ _ h => h) (GC.region (Zi (.int .i64 (w .i64 (x67 + 1))) (Zm ?_)))
 exact Yj I3 (w .i64 (x67 + 1)) h
 refine GC.exit_to (fun _ _ h => h) (GC.region (Zm ?_))
 obtain ⟨p93, hp94, h⟩ := h
 refine Zv (OV.nilCheck (q := p_w) rfl hp94) (Zf (Zc h Qq ?_))
 rintro _ H96 ⟨r95, rfl, h⟩
 exact GL.ends (fun _ _ hf hs => QC rfl hf hs ⟨rfl, h⟩)
 exact GC.ends (fun _ _ hf hs => QC rfl hf hs ⟨rfl, h⟩)
def Qlk (C : Ctx) (p_a : Qb) (p_b : Qb) (K : Bool → Heap → Prop) (H : Heap) : Prop :=
 nw (Qb.c p_a) (fun b1 H2 =>
 nw (Qb.c p_b) (fun b3 H4 =>
 ldI H4 .u8 ((b1, 0).1, (b1, 0).2 + 0) fun x5 =>
 ldI H4 .u8 ((b3, 0).1, (b3, 0).2 + 0) fun x7 =>
 jn (α := Bool) (fun b9 H17 =>
 jn (α := Bool) (fun b18 H26 =>
 jn (α := Bool) (fun b27 H37 =>
 K b27 H37)
 (fun J28 => ift b18
 (ldL H26 ((b1, 0).1, (b1, 0).2 + 3) fun x31 =>
 ldL H26 ((b3, 0).1, (b3, 0).2 + 3) fun x33 =>
 Qgq C x31 x33 (fun r35 H36 =>
 J28 r35 H36) H26)
 (J28 false H26)))
 (fun J19 => ift b9
 (ldS H17 ((b1, 0).1, (b1, 0).2 + 2) fun x22 =>
 ldS H17 ((b3, 0).1, (b3, 0).2 + 2) fun x24 =>
 J19 (x22 == x24) H17)
 (J19 false H17)))
 (fun J10 => ift ((x5 : Int) == x7)
 (ldI H4 .i64 ((b1, 0).1, (b1, 0).2 + 1) fun x13 =>
 ldI H4 .i64 ((b3, 0).1, (b3, 0).2 + 1) fun x15 =>
 J10 ((x13 : Int) == x15) H4)
 (J10 false H4))) H2) H
theorem Qoc (C p_a p_b K H) (h : Qlk C p_a p_b K H) : QbL C p_a p_b K H := by
 refine Ye Tryz.func94 rfl Tryz.ntmps94 [(0, .agg (Qb.c p_a).toArray), (1, .agg (Qb.c p_b).toArray)] (Zo (GL.box (v := .agg (Qb.c p_a).toArray) (cs := Qb.c p_a) h trivial rfl rfl rfl ?_))
 intro b1 H2 h
 refine GL.box (v := .agg (Qb.c p_b).toArray) (cs := Qb.c p_b) h trivial rfl rfl rfl ?_
 intro b3 H4 h
 refine Za (GL.nil (Zo (Zf (Yl h fun x5 h => ?_))))
 refine Zf (Yl h fun x7 h => ?_)
 refine Zi (.bool ((x5 : Int) == x7)) (Zm ?_)
 obtain ⟨J10, h, hR11⟩ := h
 refine GL.cut (α := Bool) 6 J10 (fun b9 => [(16, .bool b9), (2, pv (some (b1, 0))), (3, pv (some (b3, 0)))]) ?_ ?_
 rcases h.em with ⟨u12, h⟩ | ⟨u12, h⟩
 refine Zu u12 Yf ?_
 obtain ⟨x13, v14, h⟩ := h
 refine Zu u12 (Yo v14) (Zu u12 Yf ?_)
 obtain ⟨x15, v16, h⟩ := h
 refine Zu u12 (Yo v16) (Zu u12 (OV.ibin (v := .bool ((x13 : Int) == x15)) rfl rfl rfl) (Zt u12 ?_))
 exact Yj I3 ((x13 : Int) == x15) h
 refine Zk u12 (Zk u12 (Zk u12 (Zk u12 (Zk u12 (Zn u12 ?_)))))
 exact Yj I3 false h
 intro b9 H17 h
 replace h := hR11 b9 H17 h
 refine Zm ?_
 obtain ⟨J19, h, hR20⟩ := h
 refine GL.cut (α := Bool) 6 J19 (fun b18 => [(23, .bool b18), (2, pv (some (b1, 0))), (3, pv (some (b3, 0)))]) ?_ ?_
 rcases h.em with ⟨u21, h⟩ | ⟨u21, h⟩
 refine Zu u21 Yf ?_
 obtain ⟨x22, v23, h⟩ := h
 refine Zu u21 (Yo v23) (Zu u21 Yf ?_)
 obtain ⟨x24, v25, h⟩ := h
 refine Zu u21 (Yo v25) (Zu u21 (OV.sbin (a := x22) (b := x24) (v := .bool (x22 == x24)) rfl rfl rfl) (Zt u21 ?_))
 exact Yj I3 (x22 == x24) h
 refine Zk u21 (Zk u21 (Zk u21 (Zk u21 (Zk u21 (Zn u21 ?_)))))
 exact Yj I3 false h
 intro b18 H26 h
 replace h := hR20 b18 H26 h
 refine Zm ?_
 obtain ⟨J28, h, hR29⟩ := h
 refine GL.cut (α := Bool) 6 J28 (fun b27 => [(30, .bool b27)]) ?_ ?_
 rcases h.em with ⟨u30, h⟩ | ⟨u30, h⟩
 refine Zu u30 Yf ?_
 obtain ⟨x31, v32, h⟩ := h
 refine Zu u30 (Yo v32) (Zu u30 Yf ?_)
 obtain ⟨x33, v34, h⟩ := h
 refine Zu u30 (Yo v34) (GL.call h (Yt u30) rfl Qmg (vs := [slv x31, slv x33]) rfl ?_)
 rintro _ H36 ⟨r35, rfl, h⟩
 refine Zt u30 ?_
 exact Yj I3 r35 h
 refine Zk u30 (Zk u30 (Zk u30 (Zk u30 (Zk u30 (Zn u30 ?_)))))
 exact Yj I3 false h
 intro b27 H37 h
 replace h := hR29 b27 H37 h
 refine Za (GL.nil ?_)
 exact Y1 I3 ⟨b27, rfl, h⟩
def Qg4 (C : Ctx) (p_a : Sl) (p_b : Sl) (K : Bool → Heap → Prop) (H : Heap) : Prop :=
 ift (((Sl.len p_a : Int) : Int) != (Sl.len p_b : Int))
 (K false H)
 (lp (α := Int) 0 H (fun x2 J3 H4 =>
 ift (decide ((x2 : Int) < (Sl.len p_a : Int)))
 (dr H4 fun Hs6 =>
 ixa p_a x2 fun p8 =>
 ldT Hs6 Qa.c (p8.1, p8.2 + (x2 : Int).toNat * 9) fun x13 =>
 ixa p_b x2 fun p15 =>
 ldT Hs6 Qa.c (p15.1, p15.2 + (x2 : Int).toNat * 9) fun x20 =>
 Qau C x13 x20 (fun r23 H24 =>
 Heap.le Hs6 H24 ∧
 ift (!r23)
 (K false H24)
 (J3 (w .i64 (x2 + 1)) H24)) H4)
 (K true H4)))
theorem QkT (C p_a p_b K H) (h : Qg4 C p_a p_b K H) : Qbd C p_a p_b K H := by
 refine Ye Tryz.func95 rfl Tryz.ntmps95 [(0, slv p_a), (1, slv p_b)] (Zo (Za (GL.nil (GC.seq (Zo (Zm (Zq (Zm (Zq (Zi (.bool (((Sl.len p_a : Int) : Int) != (Sl.len p_b : Int))) (GL.nil (Yd h (fun u1 h => ?_) fun u1 h => ?_))))))))))))
 refine Zo (Za (GL.nil ?_))
 exact Y1 I3 ⟨false, rfl, h⟩
 refine GC.skip (GC.seq (Zo (Za (GL.nil (GC.block (Yp h (fun x2 => [(5, .int .i64 x2), (0, slv p_a), (1, slv p_b)]) ?_))))))
 intro x2 H4 J3 h
 refine GC.seq (Zo (Zm (Zm (Zq (Zi (.bool (decide ((x2 : Int) < (Sl.len p_a : Int)))) (GL.nil (Yd h (fun u5 h => ?_) fun u5 h => ?_)))))))
 refine GC.skip (GC.seq (GC.block (GC.seq ?_)))
 obtain ⟨Hs6, hle7, h⟩ := h
 refine GC.any (Hs := Hs6) (by kernel_rfl) hle7 (Zp 0 rfl Ym (Zp 1 rfl Ym ?_))
 obtain ⟨p8, ha9, hb10, u11, hd12, h⟩ := h
 refine Zp 2 rfl (OV.indexAddr rfl rfl rfl rfl ha9 hb10 u11 hd12) ?_
 obtain ⟨x13, v14, h⟩ := h
 refine Zp 3 rfl (OV.loadT rfl rfl rfl v14) (Zp 4 rfl Ym (Zp 5 rfl Ym ?_))
 obtain ⟨p15, ha16, hb17, u18, hd19, h⟩ := h
 refine Zp 6 rfl (OV.indexAddr rfl rfl rfl rfl ha16 hb17 u18 hd19) ?_
 obtain ⟨x20, v21, h⟩ := h
 refine Zp 7 rfl (OV.loadT rfl rfl rfl v21) (GA.eff 8 rfl (by kernel_rfl) (Zc h QhK ?_))
 rintro _ H24 ⟨r23, rfl, h⟩
 obtain ⟨hle22, h⟩ := h
 refine GA.back hle22 (Zp 9 rfl (OV.not rfl) (GA.done (by kernel_rfl) (GL.nil (Yd h (fun u25 h => ?_) fun u25 h => ?_))))
 refine Zo (Za (GL.nil ?_))
 exact Y1 I3 ⟨false, rfl, h⟩
 refine GC.skip_to (fun _ _ h => h) (GC.region (Zm (Zi (.int .i64 (w .i64 (x2 + 1))) (Za ?_))))
 exact Yj I3 (w .i64 (x2 + 1)) h
 refine GC.exit_to (fun _ _ h => h) (Zo (Za (GL.nil ?_)))
 exact Y1 I3 ⟨true, rfl, h⟩
def Qki (C : Ctx) (p_l : Sl) (p_most : Int) (K : Int → Heap → Prop) (H : Heap) : Prop :=
 lp (α := Int × Int) (0, 0) H (fun x1 J2 H3 =>
 ift ((decide ((x1.2 : Int) < (Sl.len p_l : Int))) && (decide ((x1.1 : Int) < p_most)))
 (ixa p_l x1.2 fun p6 =>
 ldS H3 ((p6.1, p6.2 + (x1.2 : Int).toNat * 2).1, (p6.1, p6.2 + (x1.2 : Int).toNat * 2).2 + 0) fun x11 =>
 ixa p_l x1.2 fun p13 =>
 ldL H3 ((p13.1, p13.2 + (x1.2 : Int).toNat * 2).1, (p13.1, p13.2 + (x1.2 : Int).toNat * 2).2 + 1) fun x18 =>
 QaP C x18 (w .i64 (p_most - (w .i64 ((w .i64 (x1.1 + 1)) + (w .i64 (Int.tdiv (List.length x11 : Int) 50)))))) (fun r20 H21 =>
 J2 ((w .i64 ((w .i64 ((w .i64 (x1.1 + 1)) + (w .i64 (Int.tdiv (List.length x11 : Int) 50)))) + r20)), (w .i64 (x1.2 + 1))) H21) H3)
 (K x1.1 H3))
theorem Qnq (C p_l p_most K H) (h : Qki C p_l p_most K H) : QaP C p_l p_most K H := by
 refine Ye Tryz.func96 rfl Tryz.ntmps96 [(0, slv p_l), (1, .int .i64 p_most)] (Zo (Za (GL.nil (Zo (Za (GL.nil (GC.seq (Zo (Za (GL.nil (GC.block (Yp h (fun x1 => [(5, .int .i64 x1.1), (6, .int .i64 x1.2), (0, slv p_l), (1, .int .i64 p_most)]) ?_))))))))))))
 intro x1 H3 J2 h
 refine GC.seq (Zo (Zm (Zm (Zq (Zi (.bool (decide ((x1.2 : Int) < (Sl.len p_l : Int)))) (Zm (GL.cut0 4 [(15, .bool ((decide ((x1.2 : Int) < (Sl.len p_l : Int))) && (decide ((x1.1 : Int) < p_most)))), (0, slv p_l), (1, .int .i64 p_most), (5, .int .i64 x1.1), (6, .int .i64 x1.2)] ?_ ?_)))))))
 rcases Zb (decide ((x1.2 : Int) < (Sl.len p_l : Int))) with u4 | u4
 refine Zu u4 Ym (Zu u4 Ym (Zu u4 (OV.ibin (v := .bool (decide ((x1.1 : Int) < p_most))) rfl rfl rfl) (Zt u4 ?_)))
 exact GL.jump0 (fun _ _ h => h) () rfl ⟨(by rw [u4]; rfl), rfl, rfl, rfl, rfl, trivial⟩
 refine Zk u4 (Zk u4 (Zk u4 (Zn u4 ?_)))
 exact GL.jump0 (fun _ _ h => h) () rfl ⟨(by rw [u4]; rfl), rfl, rfl, rfl, rfl, trivial⟩
 refine GL.nil (Yd h (fun u5 h => ?_) fun u5 h => ?_)
 refine GC.skip (GC.seq (GC.block (Zo (Zm (Zi (.int .i64 (w .i64 (x1.1 + 1))) (Zm (Zm (Yx h fun p6 h => ?_))))))))
 refine Zf (Yl h fun x11 h => ?_)
 refine Zr (Zv (OV.quo rfl rfl (by decide)) (Zi (.int .i64 (w .i64 ((w .i64 (x1.1 + 1)) + (w .i64 (Int.tdiv (List.length x11 : Int) 50))))) (Za (GL.nil (GC.region (Zm (Zm (Zm (Yx h fun p13 h => ?_)))))))))
 refine Zf (Yl h fun x18 h => ?_)
 refine Zm (Zm (Zi (.int .i64 (w .i64 (p_most - (w .i64 ((w .i64 (x1.1 + 1)) + (w .i64 (Int.tdiv (List.length x11 : Int) 50))))))) (Zc h Qj7 ?_)))
 rintro _ H21 ⟨r20, rfl, h⟩
 refine Zi (.int .i64 (w .i64 ((w .i64 ((w .i64 (x1.1 + 1)) + (w .i64 (Int.tdiv (List.length x11 : Int) 50)))) + r20))) (Za (GL.nil_to (fun _ _ h => h) (GC.region (Zm (Zi (.int .i64 (w .i64 (x1.2 + 1))) (Za ?_))))))
 exact Yj I3 ((w .i64 ((w .i64 ((w .i64 (x1.1 + 1)) + (w .i64 (Int.tdiv (List.length x11 : Int) 50)))) + r20)), (w .i64 (x1.2 + 1))) h
 refine GC.exit_to (fun _ _ h => h) (Zo (Zm (Za (GL.nil ?_))))
 exact Y1 I3 ⟨x1.1, rfl, h⟩
def Qkp (C : Ctx) (p_e : Qa) (v0 : Nat × Nat) (v1 : Nat × Nat) (K : Heap → Prop) (H : Heap) : Prop :=
 nw (Qa.c p_e) (fun b1 H2 =>
 ldI H2 .u8 ((b1, 0).1, (b1, 0).2 + 0) fun x3 =>
 ift ((x3 : Int) == 2)
 (ldL H2 v0 fun x6 =>
 ldS H2 ((b1, 0).1, (b1, 0).2 + 3) fun x8 =>
 Qbe C x6 x8 (fun r10 H11 =>
 ift (!r10)
 (ldL H11 v0 fun x13 =>
 ldS H11 ((b1, 0).1, (b1, 0).2 + 3) fun x15 =>
 apd ([sv []]) 16 x13 ([sv x15]) 1 (fun r17 H18 =>
 st v0 (slv r17) (fun H19 =>
 K H19) H18) H11)
 (K H11)) H2)
 (ldL H2 ((b1, 0).1, (b1, 0).2 + 8) fun x20 =>
 lp (α := Int) 0 H2 (fun x22 J23 H24 =>
 ift (decide ((x22 : Int) < (Sl.len x20 : Int)))
 (ixa x20 x22 fun p26 =>
 ldT H24 Qa.c (p26.1, p26.2 + (x22 : Int).toNat * 9) fun x31 =>
 nw (Qa.c Qa.zero) (fun b33 H34 =>
 stT (b33, 0) (Qa.c x31) (fun H35 =>
 ldV H35 v1 fun x36 =>
 ldT H35 Qa.c (b33, 0) fun x38 =>
 callU Tryz.prog C x36 [.agg (Qa.c x38).toArray] H35 (fun v H40 => v = .tuple #[] ∧
 J23 (w .i64 (x22 + 1)) H40)) H34) H24)
 (K H24)))) H
theorem Qnx (C p_e v0 v1 K H) (h : Qkp C p_e v0 v1 K H) : QkZ C p_e v0 v1 K H := by
 refine Ye Tryz.func97 rfl Tryz.ntmps97 [(0, .agg (Qa.c p_e).toArray), (1, pv (some v0)), (2, pv (some v1))] (Zo (GL.box (v := .agg (Qa.c p_e).toArray) (cs := Qa.c p_e) h trivial rfl rfl rfl ?_))
 intro b1 H2 h
 refine GL.nil (GC.seq (Zo (Zf (Yl h fun x3 h => ?_))))
 refine Zi (.bool ((x3 : Int) == 2)) (GL.nil (Yd h (fun u5 h => ?_) fun u5 h => ?_))
 refine GC.seq (Zo (Yl h fun x6 h => ?_))
 refine Zf (Yl h fun x8 h => ?_)
 refine Zc h Qfe ?_
 rintro _ H11 ⟨r10, rfl, h⟩
 refine Zv (OV.not rfl) (GL.nil (Yd h (fun u12 h => ?_) fun u12 h => ?_))
 refine GC.region (Yl h fun x13 h => ?_)
 refine Zf (Yl h fun x15 h => ?_)
 refine GL.appendLit (s := x13) (ys := [sv x15]) (zc := [sv []]) (bytes := 16) h trivial rfl (fun _ => trivial) rfl (fun _ => rfl) (fun _ => rfl) (vs := [(0, sv x15)]) rfl ⟨9, fun _ => by kernel_rfl⟩ ⟨⟨_, _, _, rfl, rfl, rfl, rfl, rfl, rfl⟩⟩ rfl rfl ?_
 intro _ r17 H18 h
 refine GL.store (p := v0) (v := slv r17) h trivial rfl rfl rfl rfl ?_
 intro H19 h
 refine GL.nil ?_
 exact GC.ret (fun _ _ hf hs => QC rfl hf hs ⟨rfl, h⟩)
 refine GC.skip ?_
 exact GC.ret (fun _ _ hf hs => QC rfl hf hs ⟨rfl, h⟩)
 refine GC.skip (Zo (Zf (Yl h fun x20 h => ?_)))
 refine Zq (Zm (GL.nil (GC.block (Yp h (fun x22 => [(22, .int .i64 x22), (2, pv (some v1)), (20, slv x20), (21, .int .i64 (Sl.len x20 : Int))]) ?_))))
 intro x22 H24 J23 h
 refine Zo (Zi (.bool (decide ((x22 : Int) < (Sl.len x20 : Int)))) (GL.nil (GC.seq (Yd h (fun u25 h => ?_) fun u25 h => ?_))))
 refine GC.skip (GC.seq (GC.block (Zo (Yx h fun p26 h => ?_))))
 obtain ⟨x31, hr32, h⟩ := h
 refine Zv (OV.loadT rfl rfl rfl hr32) (GL.alloc (cs := Qa.c Qa.zero) h trivial rfl rfl rfl ?_)
 intro b33 H34 h
 refine GL.storeT (p := (b33, 0)) (vs := Qa.c x31) h trivial rfl rfl rfl rfl ?_
 intro H35 h
 refine GL.nil (GC.region (Yl h fun x36 h => ?_))
 obtain ⟨x38, hr39, h⟩ := h
 refine Zv (OV.loadT rfl rfl rfl hr39) (GL.callU (xv := x36) (vs := [.agg (Qa.c x38).toArray]) h trivial rfl rfl rfl ?_)
 rintro _ H40 ⟨rfl, h⟩
 refine GL.nil_to (fun _ _ h => h) (GC.region (Zi (.int .i64 (w .i64 (x22 + 1))) (Zm ?_)))
 exact Yj I3 (w .i64 (x22 + 1)) h
 exact GC.exit_ends (fun _ _ hf hs => QC rfl hf hs ⟨rfl, h⟩)
def Qcf (C : Ctx) (p_s : Sl) (p_v : Str) (K : Bool → Heap → Prop) (H : Heap) : Prop :=
 Qdg C p_s p_v (fun r1 H2 =>
 K (decide ((r1 : Int) ≥ 0)) H2) H
theorem Qfd (C p_s p_v K H) (h : Qcf C p_s p_v K H) : Qbe C p_s p_v K H := by
 refine Ye Tryz.func98 rfl Tryz.ntmps98 [(0, slv p_s), (1, sv p_v)] (Zo (Za (GL.nil (Zo (Zm (Zm (Zc h QfY ?_)))))))
 rintro _ H2 ⟨r1, rfl, h⟩
 refine Zi (.bool (decide ((r1 : Int) ≥ 0))) (Za (GL.nil ?_))
 exact Y1 I3 ⟨(decide ((r1 : Int) ≥ 0)), rfl, h⟩
def Qg7 (C : Ctx) (p_w : Option (Nat × Nat)) (p_is : Bool) (K : Heap → Prop) (H : Heap) : Prop :=
 ift p_is
 (nck p_w fun p2 =>
 Qm C (some (p2.1, p2.2 + 0)) [112, 117, 98, 32] (fun r4 r5 H6 =>
 K H6) H)
 (K H)
theorem QkW (C p_w p_is K H) (h : Qg7 C p_w p_is K H) : QdV C p_w p_is K H := by
 refine Ye Tryz.func99 rfl Tryz.ntmps99 [(0, pv p_w), (1, .bool p_is)] (Zo (Zm (GL.nil (Yd h (fun u1 h => ?_) fun u1 h => ?_))))
 refine GC.region (Zm ?_)
 obtain ⟨p2, hp3, h⟩ := h
 refine Zv (OV.nilCheck (q := p_w) rfl hp3) (Zf (Zc h Qn ?_))
 rintro _ H6 ⟨r4, r5, rfl, h⟩
 exact GL.ends (fun _ _ hf hs => QC rfl hf hs ⟨rfl, h⟩)
 exact GC.ends (fun _ _ hf hs => QC rfl hf hs ⟨rfl, h⟩)
def Qe9 (C : Ctx) (p_w : Option (Nat × Nat)) (p_l : Sl) (p_write : Value) (K : Heap → Prop) (H : Heap) : Prop :=
 nck p_w fun p1 =>
 Qo C (some (p1.1, p1.2 + 0)) 40 (fun r3 H4 =>
 QgS C p_w p_l [44, 32] p_write (fun H5 =>
 nck p_w fun p6 =>
 Qo C (some (p6.1, p6.2 + 0)) 41 (fun r8 H9 =>
 K H9) H5) H4) H
theorem Qh8 (C p_w p_l p_write K H) (h : Qe9 C p_w p_l p_write K H) : Qda C p_w p_l p_write K H := by
 refine Ye Tryz.func100 rfl Tryz.ntmps100 [(0, pv p_w), (1, slv p_l), (2, p_write)] (Zo (Zm ?_))
 obtain ⟨p1, hp2, h⟩ := h
 refine Zv (OV.nilCheck (q := p_w) rfl hp2) (Zf (Zc h Qq ?_))
 rintro _ H4 ⟨r3, rfl, h⟩
 refine GL.nil (Zo (Zm (Zm (Zm (Zc h QkK ?_)))))
 rintro _ H5 ⟨rfl, h⟩
 refine GL.nil (GC.region (Zm ?_))
 obtain ⟨p6, hp7, h⟩ := h
 refine Zv (OV.nilCheck (q := p_w) rfl hp7) (Zf (Zc h Qq ?_))
 rintro _ H9 ⟨r8, rfl, h⟩
 exact GL.ends (fun _ _ hf hs => QC rfl hf hs ⟨rfl, h⟩)
def QeM (C : Ctx) (p_s : Str) (v0 : Nat × Nat) (K : Heap → Prop) (H : Heap) : Prop :=
 ldP H v0 fun x1 =>
 nck x1 fun p3 =>
 Qm C (some (p3.1, p3.2 + 0)) p_s (fun r5 r6 H7 =>
 K H7) H
theorem QhG (C p_s v0 K H) (h : QeM C p_s v0 K H) : Qe0 C p_s v0 K H := by
 refine Ye Tryz.func101 rfl Tryz.ntmps101 [(0, sv p_s), (1, pv (some v0))] (GC.region (Yl h fun x1 h => ?_))
 obtain ⟨p3, hp4, h⟩ := h
 refine Zv (OV.nilCheck (q := x1) rfl hp4) (Zf (Zm (Zc h Qn ?_)))
 rintro _ H7 ⟨r5, r6, rfl, h⟩
 exact GL.ends (fun _ _ hf hs => QC rfl hf hs ⟨rfl, h⟩)
def QeJ (C : Ctx) (p_w : Option (Nat × Nat)) (p_l : Sl) (p_between : Str) (p_write : Value) (K : Heap → Prop) (H : Heap) : Prop :=
 lp (α := Int) 0 H (fun x1 J2 H3 =>
 ift (decide ((x1 : Int) < (Sl.len p_l : Int)))
 (ixa p_l x1 fun p5 =>
 ldT H3 Qe.c (p5.1, p5.2 + (x1 : Int).toNat * 2) fun x10 =>
 nw (Qe.c Qe.zero) (fun b12 H13 =>
 stT (b12, 0) (Qe.c x10) (fun H14 =>
 jn (α := Unit) (fun x16 H17 =>
 ldT H17 Qe.c (b12, 0) fun x25 =>
 callU Tryz.prog C p_write [.agg (Qe.c x25).toArray] H17 (fun v H27 => v = .tuple #[] ∧
 J2 (w .i64 (x1 + 1)) H27))
 (fun J15 => ift (decide ((x1 : Int) > 0))
 (nck p_w fun p20 =>
 Qm C (some (p20.1, p20.2 + 0)) p_between (fun r22 r23 H24 =>
 J15 () H24) H14)
 (J15 () H14))) H13) H3)
 (K H3))
theorem QhD (C p_w p_l p_between p_write K H) (h : QeJ C p_w p_l p_between p_write K H) : QcL C p_w p_l p_between p_write K H := by
 refine Ye Tryz.func102 rfl Tryz.ntmps102 [(0, pv p_w), (1, slv p_l), (2, sv p_between), (3, p_write)] (Zo (Zm (Zq (Zm (GL.nil (GC.block (Yp h (fun x1 => [(12, .int .i64 x1), (0, pv p_w), (2, sv p_between), (3, p_write), (10, slv p_l), (11, .int .i64 (Sl.len p_l : Int))]) ?_)))))))
 intro x1 H3 J2 h
 refine Zo (Zi (.bool (decide ((x1 : Int) < (Sl.len p_l : Int)))) (GL.nil (GC.seq (Yd h (fun u4 h => ?_) fun u4 h => ?_))))
 refine GC.skip (GC.seq (GC.block (Zo (Zm (Yx h fun p5 h => ?_)))))
 obtain ⟨x10, v11, h⟩ := h
 refine Zv (OV.loadT rfl rfl rfl v11) (GL.alloc (cs := Qe.c Qe.zero) h trivial rfl rfl rfl ?_)
 intro b12 H13 h
 refine Za (GL.storeT (p := (b12, 0)) (vs := Qe.c x10) h trivial rfl rfl rfl rfl ?_)
 intro H14 h
 refine GL.nil ?_
 obtain ⟨J15, h, hR18⟩ := h
 refine GC.join (α := Unit) J15 (fun _ => [(0, pv p_w), (2, sv p_between), (3, p_write), (9, pv (some (b12, 0))), (10, slv p_l), (11, .int .i64 (Sl.len p_l : Int)), (12, .int .i64 x1)]) ?_ ?_
 refine Zo (Zm (Zi (.bool (decide ((x1 : Int) > 0))) (GL.nil (Yd h (fun u19 h => ?_) fun u19 h => ?_))))
 refine GC.region (Zm ?_)
 obtain ⟨p20, hp21, h⟩ := h
 refine Zv (OV.nilCheck (q := p_w) rfl hp21) (Zf (Zm (Zc h Qn ?_)))
 rintro _ H24 ⟨r22, r23, rfl, h⟩
 exact Yj I3 () h
 exact Yk I3 () h
 intro x16 H17 h
 replace h := hR18 x16 H17 h
 refine GC.region (Zm ?_)
 obtain ⟨x25, v26, h⟩ := h
 refine Zv (OV.loadT rfl rfl rfl v26) (GL.callU (xv := p_write) (vs := [.agg (Qe.c x25).toArray]) h trivial rfl rfl rfl ?_)
 rintro _ H27 ⟨rfl, h⟩
 refine GL.nil_to (fun _ _ h => h) (GC.region (Zi (.int .i64 (w .i64 (x1 + 1))) (Zm ?_)))
 exact Yj I3 (w .i64 (x1 + 1)) h
 exact GC.exit_ends (fun _ _ hf hs => QC rfl hf hs ⟨rfl, h⟩)
def QeN (C : Ctx) (p_c : Qe) (v0 : Nat × Nat) (K : Heap → Prop) (H : Heap) : Prop :=
 nw (Qe.c p_c) (fun b1 H2 =>
 dr H2 fun Hs3 =>
 ldP Hs3 v0 fun x5 =>
 nck x5 fun p7 =>
 ldS Hs3 ((b1, 0).1, (b1, 0).2 + 0) fun x9 =>
 Qm C (some (p7.1, p7.2 + 0)) x9 (fun r12 r13 H14 =>
 Heap.le Hs3 H14 ∧
 ldL H14 ((b1, 0).1, (b1, 0).2 + 1) fun x15 =>
 ift (decide (((Sl.len x15 : Int) : Int) > 0))
 (ldP H14 v0 fun x18 =>
 ldL H14 ((b1, 0).1, (b1, 0).2 + 1) fun x20 =>
 ldP H14 v0 fun x22 =>
 Qai C x18 x20 (.func (.func 105) (List.toArray [pv x22]) (List.toArray []) : Value) (fun H24 =>
 K H24) H14)
 (K H14)) H2) H
theorem QhH (C p_c v0 K H) (h : QeN C p_c v0 K H) : Qe1 C p_c v0 K H := by
 refine Ye Tryz.func103 rfl Tryz.ntmps103 [(0, .agg (Qe.c p_c).toArray), (1, pv (some v0))] (Zo (GL.box (v := .agg (Qe.c p_c).toArray) (cs := Qe.c p_c) h trivial rfl rfl rfl ?_))
 intro b1 H2 h
 refine GL.nil (GC.seq ?_)
 obtain ⟨Hs3, hle4, h⟩ := h
 refine GC.any (Hs := Hs3) (by kernel_rfl) hle4 ?_
 obtain ⟨x5, hr6, h⟩ := h
 refine Zp 0 rfl (Yo hr6) ?_
 obtain ⟨p7, hp8, h⟩ := h
 refine Zp 1 rfl (OV.nilCheck (q := x5) rfl hp8) (Zp 2 rfl Yf (Zp 3 rfl Yf ?_))
 obtain ⟨x9, hr10, h⟩ := h
 refine Zp 4 rfl (Yo hr10) (GA.eff 5 rfl (by kernel_rfl) (Zc h Qn ?_))
 rintro _ H14 ⟨r12, r13, rfl, h⟩
 obtain ⟨hle11, h⟩ := h
 refine GA.back hle11 (GA.done (by kernel_rfl) (GL.nil (Zo (Zf (Yl h fun x15 h => ?_)))))
 refine Zq (Zi (.bool (decide (((Sl.len x15 : Int) : Int) > 0))) (GL.nil (Yd h (fun u17 h => ?_) fun u17 h => ?_)))
 refine GC.region (Yl h fun x18 h => ?_)
 refine Zf (Yl h fun x20 h => ?_)
 refine Yl h fun x22 h => ?_
 refine Zv (OV.makeFunc (vs := [pv x22]) (us := []) rfl rfl) (Zc h QcU ?_)
 rintro _ H24 ⟨rfl, h⟩
 exact GL.ends (fun _ _ hf hs => QC rfl hf hs ⟨rfl, h⟩)
 exact GC.ends (fun _ _ hf hs => QC rfl hf hs ⟨rfl, h⟩)
def QcY (C : Ctx) (p_w : Option (Nat × Nat)) (p_l : Sl) (p_write : Value) (K : Heap → Prop) (H : Heap) : Prop :=
 nck p_w fun p1 =>
 Qo C (some (p1.1, p1.2 + 0)) 40 (fun r3 H4 =>
 Qcu C p_w p_l [44, 32] p_write (fun H5 =>
 nck p_w fun p6 =>
 Qo C (some (p6.1, p6.2 + 0)) 41 (fun r8 H9 =>
 K H9) H5) H4) H
theorem QfU (C p_w p_l p_write K H) (h : QcY C p_w p_l p_write K H) : Qai C p_w p_l p_write K H := by
 refine Ye Tryz.func104 rfl Tryz.ntmps104 [(0, pv p_w), (1, slv p_l), (2, p_write)] (Zo (Zm ?_))
 obtain ⟨p1, hp2, h⟩ := h
 refine Zv (OV.nilCheck (q := p_w) rfl hp2) (Zf (Zc h Qq ?_))
 rintro _ H4 ⟨r3, rfl, h⟩
 refine GL.nil (Zo (Zm (Zm (Zm (Zc h Qht ?_)))))
 rintro _ H5 ⟨rfl, h⟩
 refine GL.nil (GC.region (Zm ?_))
 obtain ⟨p6, hp7, h⟩ := h
 refine Zv (OV.nilCheck (q := p_w) rfl hp7) (Zf (Zc h Qq ?_))
 rintro _ H9 ⟨r8, rfl, h⟩
 exact GL.ends (fun _ _ hf hs => QC rfl hf hs ⟨rfl, h⟩)
def Qfc (C : Ctx) (p_w : Option (Nat × Nat)) (p_f : Qc) (K : Heap → Prop) (H : Heap) : Prop :=
 nw (Qc.c p_f) (fun b1 H2 =>
 jn (α := Unit) (fun x4 H5 =>
 ldT H5 Qf.c ((b1, 0).1, (b1, 0).2 + 1) fun x15 =>
 Qft C p_w x15 (fun H17 =>
 K H17) H5)
 (fun J3 => ldS H2 ((b1, 0).1, (b1, 0).2 + 0) fun x7 =>
 ift (!(x7 == ([] : Str)))
 (ldS H2 ((b1, 0).1, (b1, 0).2 + 0) fun x10 =>
 nw ([sv x10, sv [58, 32]]) (fun b12 H13 =>
 QG C p_w (Sl.of (some (b12, 0)) 2 2) (fun H14 =>
 J3 () H14) H13) H2)
 (J3 () H2))) H
theorem Qib (C p_w p_f K H) (h : Qfc C p_w p_f K H) : Qfg C p_w p_f K H := by
 refine Ye Tryz.func105 rfl Tryz.ntmps105 [(0, pv p_w), (1, .agg (Qc.c p_f).toArray)] (Zo (GL.box (v := .agg (Qc.c p_f).toArray) (cs := Qc.c p_f) h trivial rfl rfl rfl ?_))
 intro b1 H2 h
 refine GL.nil ?_
 obtain ⟨J3, h, hR6⟩ := h
 refine GC.join (α := Unit) J3 (fun _ => [(0, pv p_w), (3, pv (some (b1, 0)))]) ?_ ?_
 refine Zo (Zf (Yl h fun x7 h => ?_))
 refine Zv (OV.sbin (a := x7) (b := ([] : Str)) (v := .bool (!(x7 == ([] : Str)))) rfl rfl rfl) (GL.nil (Yd h (fun u9 h => ?_) fun u9 h => ?_))
 refine GC.region (Zm (Zf (Yl h fun x10 h => ?_)))
 refine GL.buildSlice (cs := [sv x10, sv [58, 32]]) h trivial rfl (vs := [(0, sv x10), (1, sv [58, 32])]) rfl ⟨9, fun _ => by kernel_rfl⟩ ?_
 intro b12 H13 h
 refine Zc h QT ?_
 rintro _ H14 ⟨rfl, h⟩
 exact Yj I3 () h
 exact Yk I3 () h
 intro x4 H5 h
 replace h := hR6 x4 H5 h
 refine GC.region (Zm (Zf ?_))
 obtain ⟨x15, v16, h⟩ := h
 refine Zv (OV.loadT rfl rfl rfl v16) (Zc h Qg0 ?_)
 rintro _ H17 ⟨rfl, h⟩
 exact GL.ends (fun _ _ hf hs => QC rfl hf hs ⟨rfl, h⟩)
def Qdk (C : Ctx) (p_b : Option (Nat × Nat)) (p_c : Int) (K : Value → Heap → Prop) (H : Heap) : Prop :=
 QaS C p_b (fun H1 =>
 nck p_b fun p2 =>
 ldL H1 (p2.1, p2.2 + 1) fun x4 =>
 apdG 5 ([.int .u8 0]) 1 x4 ([.int .u8 p_c]) 1 (fun r6 H7 =>
 nck p_b fun p8 =>
 sttG (p8.1, p8.2 + 1) (slv r6) (fun H10 =>
 K .nilIface H10) H7) H1) H
theorem Qgc (C p_b p_c K H) (h : Qdk C p_b p_c K H) : Qo C p_b p_c K H := by
 refine Ye Tryz.func106 rfl Tryz.ntmps106 [(0, pv p_b), (1, .int .u8 p_c)] (Zo (Za (GL.nil (Zo (Zm (Zc h Qdh ?_))))))
 rintro _ H1 ⟨rfl, h⟩
 refine GL.nil (Zo (Zm (Zm ?_)))
 obtain ⟨p2, hp3, h⟩ := h
 refine Zv (OV.nilCheck (q := p_b) rfl hp3) (Zf (Yl h fun x4 h => ?_))
 refine Zm (GL.appendGLit (e := 5) (s := x4) (ys := [.int .u8 p_c]) (zc := [.int .u8 0]) (bytes := 1) h trivial rfl (fun _ => trivial) rfl (fun _ => rfl) (fun _ => rfl) (vs := [(0, .int .u8 p_c)]) rfl ⟨5, fun _ => by kernel_rfl⟩ ⟨⟨_, _, rfl, rfl, rfl, rfl, rfl, rfl⟩⟩ rfl rfl ?_)
 intro _ r6 H7 h
 obtain ⟨p8, hp9, h⟩ := h
 refine Zv (OV.nilCheck (q := p_b) rfl hp9) (Zf (GL.storeG (p := (p8.1, p8.2 + 1)) (v := slv r6) h trivial rfl rfl rfl rfl ?_))
 intro H10 h
 refine GL.nil (Zo (Za (GL.nil ?_)))
 exact Y1 I3 ⟨.nilIface, rfl, h⟩
def Qcd (C : Ctx) (p_w : Option (Nat × Nat)) (p_l : Sl) (p_write : Value) (K : Heap → Prop) (H : Heap) : Prop :=
 nck p_w fun p1 =>
 Qo C (some (p1.1, p1.2 + 0)) 40 (fun r3 H4 =>
 Qa0 C p_w p_l [44, 32] p_write (fun H5 =>
 nck p_w fun p6 =>
 Qo C (some (p6.1, p6.2 + 0)) 41 (fun r8 H9 =>
 K H9) H5) H4) H
theorem Qed (C p_w p_l p_write K H) (h : Qcd C p_w p_l p_write K H) : QE C p_w p_l p_write K H := by
 refine Ye Tryz.func107 rfl Tryz.ntmps107 [(0, pv p_w), (1, slv p_l), (2, p_write)] (Zo (Zm ?_))
 obtain ⟨p1, hp2, h⟩ := h
 refine Zv (OV.nilCheck (q := p_w) rfl hp2) (Zf (Zc h Qq ?_))
 rintro _ H4 ⟨r3, rfl, h⟩
 refine GL.nil (Zo (Zm (Zm (Zm (Zc h QfI ?_)))))
 rintro _ H5 ⟨rfl, h⟩
 refine GL.nil (GC.region (Zm ?_))
 obtain ⟨p6, hp7, h⟩ := h
 refine Zv (OV.nilCheck (q := p_w) rfl hp7) (Zf (Zc h Qq ?_))
 rintro _ H9 ⟨r8, rfl, h⟩
 exact GL.ends (fun _ _ hf hs => QC rfl hf hs ⟨rfl, h⟩)
def QfP (C : Ctx) (p_e : Qa) (v0 : Nat × Nat) (v1 : Nat × Nat) (v2 : Nat × Nat) (K : Heap → Prop) (H : Heap) : Prop :=
 nw (Qa.c p_e) (fun b1 H2 =>
 ldL H2 (v0.1, v0.2 + 4) fun x3 =>
 ldI H2 .i64 v1 fun x5 =>
 ixa x3 x5 fun p7 =>
 ldS H2 (p7.1, p7.2 + (x5 : Int).toNat * 1) fun x12 =>
 ldI H2 .i64 v1 fun x14 =>
 st v1 (.int .i64 (w .i64 (x14 + 1))) (fun H16 =>
 ift (x12 == ([] : Str))
 (ldP H16 v2 fun x18 =>
 ldT H16 Qa.c (b1, 0) fun x20 =>
 Q4 C x18 x20 (fun H22 =>
 K H22) H16)
 (ldP H16 v2 fun x23 =>
 nw ([sv x12, sv [40]]) (fun b25 H26 =>
 QG C x23 (Sl.of (some (b25, 0)) 2 2) (fun H27 =>
 ldP H27 v2 fun x28 =>
 ldT H27 Qa.c (b1, 0) fun x30 =>
 Q4 C x28 x30 (fun H32 =>
 ldP H32 v2 fun x33 =>
 nck x33 fun p35 =>
 Qo C (some (p35.1, p35.2 + 0)) 41 (fun r37 H38 =>
 K H38) H32) H27) H26) H16)) H2) H
theorem Qjb (C p_e v0 v1 v2 K H) (h : QfP C p_e v0 v1 v2 K H) : Qd7 C p_e v0 v1 v2 K H := by
 refine Ye Tryz.func108 rfl Tryz.ntmps108 [(0, .agg (Qa.c p_e).toArray), (1, pv (some v0)), (2, pv (some v1)), (3, pv (some v2))] (Zo (GL.box (v := .agg (Qa.c p_e).toArray) (cs := Qa.c p_e) h trivial rfl rfl rfl ?_))
 intro b1 H2 h
 refine GL.nil (Zo (Zf (Yl h fun x3 h => ?_)))
 refine Yl h fun x5 h => ?_
 refine Yx h fun p7 h => ?_
 refine Yl h fun x12 h => ?_
 refine Za (GL.nil (Zo (Yl h fun x14 h => ?_)))
 refine Zi (.int .i64 (w .i64 (x14 + 1))) (GL.store (p := v1) (v := .int .i64 (w .i64 (x14 + 1))) h trivial rfl rfl rfl rfl ?_)
 intro H16 h
 refine GL.nil (GC.seq (Zo (Zm (Zv (OV.sbin (a := x12) (b := ([] : Str)) (v := .bool (x12 == ([] : Str))) rfl rfl rfl) (GL.nil (Yd h (fun u17 h => ?_) fun u17 h => ?_))))))
 refine Zo (Yl h fun x18 h => ?_)
 obtain ⟨x20, hr21, h⟩ := h
 refine Zv (OV.loadT rfl rfl rfl hr21) (Zc h Q0 ?_)
 rintro _ H22 ⟨rfl, h⟩
 refine GL.nil ?_
 exact GC.ret (fun _ _ hf hs => QC rfl hf hs ⟨rfl, h⟩)
 refine GC.skip (Zo (Yl h fun x23 h => ?_))
 refine Zm (GL.buildSlice (cs := [sv x12, sv [40]]) h trivial rfl (vs := [(0, sv x12), (1, sv [40])]) rfl ⟨9, fun _ => by kernel_rfl⟩ ?_)
 intro b25 H26 h
 refine Zc h QT ?_
 rintro _ H27 ⟨rfl, h⟩
 refine GL.nil (Zo (Yl h fun x28 h => ?_))
 obtain ⟨x30, hr31, h⟩ := h
 refine Zv (OV.loadT rfl rfl rfl hr31) (Zc h Q0 ?_)
 rintro _ H32 ⟨rfl, h⟩
 refine GL.nil (GC.region (Yl h fun x33 h => ?_))
 obtain ⟨p35, hp36, h⟩ := h
 refine Zv (OV.nilCheck (q := x33) rfl hp36) (Zf (Zc h Qq ?_))
 rintro _ H38 ⟨r37, rfl, h⟩
 exact GL.ends (fun _ _ hf hs => QC rfl hf hs ⟨rfl, h⟩)
def Qdl (C : Ctx) (p_b : Option (Nat × Nat)) (K : Heap → Prop) (H : Heap) : Prop :=
 nck p_b fun p1 =>
 ldP H (p1.1, p1.2 + 0) fun x3 =>
 ift (Option.isNone x3)
 (∃ p7, p_b = some p7 ∧ cvU p7 (
 cvT Tryz.prog 85 2 p7 (
 nck p_b fun p10 =>
 sttG (p10.1, p10.2 + 0) (pv (some p7)) (fun H12 =>
 K H12) H) H) H)
 (nck p_b fun p13 =>
 ldP H (p13.1, p13.2 + 0) fun x15 =>
 ∃ p17, x15 = some p17 ∧ p_b = some p17 ∧
 ift false
 (False)
 (K H))
theorem Qgd (C p_b K H) (h : Qdl C p_b K H) : QaS C p_b K H := by
 refine Ye Tryz.func109 rfl Tryz.ntmps109 [(0, pv p_b)] (Zo (Zm ?_))
 obtain ⟨p1, hp2, h⟩ := h
 refine Zv (OV.nilCheck (q := p_b) rfl hp2) (Zf (Yl h fun x3 h => ?_))
 refine Zv (OV.eqlNil (p := x3) rfl rfl rfl) (GL.nil (Yd h (fun u5 h => ?_) fun u5 h => ?_))
 refine GC.region (Zm (Zm ?_))
 obtain ⟨p7, hp8, hu6, h⟩ := h
 refine Zv (OV.cvU (q := p_b) (p := p7) hp8 hu6 rfl rfl rfl ⟨_, rfl, by decide⟩) (Zv (OV.ext Qhm (vs := [pv (some p7)]) (v := pv (some p7)) rfl (fun w => Qtb _ w)) ?_)
 obtain ⟨hu9, h⟩ := h
 refine Zv (OV.cvT (len := 2) (p := p7) hu9 rfl rfl rfl ⟨_, rfl⟩) ?_
 obtain ⟨p10, hp11, h⟩ := h
 refine Zv (OV.nilCheck (q := p_b) rfl hp11) (Zf (GL.storeG (p := (p10.1, p10.2 + 0)) (v := pv (some p7)) h trivial rfl rfl rfl rfl ?_))
 intro H12 h
 exact GL.ends (fun _ _ hf hs => QC rfl hf hs ⟨rfl, h⟩)
 refine Zo (Zm ?_)
 obtain ⟨p13, hp14, h⟩ := h
 refine Zv (OV.nilCheck (q := p_b) rfl hp14) (Zf (Yl h fun x15 h => ?_))
 refine Zm ?_
 obtain ⟨p17, hp18, hq19, h⟩ := h
 refine Zv (OV.neqSame (p := x15) (q := p_b) rfl rfl hp18 hq19 rfl rfl) (GL.nil (Yd h (fun u20 h => ?_) fun u20 h => ?_))
 exact GC.never h
 exact GC.ends (fun _ _ hf hs => QC rfl hf hs ⟨rfl, h⟩)
def QdI (C : Ctx) (p_l : Sl) (p_depth : Value) (K : Int → Heap → Prop) (H : Heap) : Prop :=
 lp (α := Int × Int) (0, 0) H (fun x1 J2 H3 =>
 ift (decide ((x1.2 : Int) < (Sl.len p_l : Int)))
 (ixa p_l x1.2 fun p5 =>
 ldT H3 Qg.c (p5.1, p5.2 + (x1.2 : Int).toNat * 6) fun x10 =>
 nw (Qg.c Qg.zero) (fun b12 H13 =>
 stT (b12, 0) (Qg.c x10) (fun H14 =>
 ldT H14 Qg.c (b12, 0) fun x15 =>
 callU Tryz.prog C p_depth [.agg (Qg.c x15).toArray] H14 (fun v H18 => ∃ (r17 : Int), v = .int .i64 r17 ∧
 J2 ((if r17 > x1.1 then r17 else x1.1 : Int), (w .i64 (x1.2 + 1))) H18)) H13) H3)
 (K x1.1 H3))
theorem Qgp (C p_l p_depth K H) (h : QdI C p_l p_depth K H) : QV C p_l p_depth K H := by
 refine Ye Tryz.func113 rfl Tryz.ntmps113 [(0, slv p_l), (1, p_depth)] (Zo (Za (GL.nil (Zo (Za (GL.nil (GC.seq (Zo (Zm (Zq (Zm (GL.nil (GC.block (Yp h (fun x1 => [(5, .int .i64 x1.1), (10, .int .i64 x1.2), (1, p_depth), (8, slv p_l), (9, .int .i64 (Sl.len p_l : Int))]) ?_))))))))))))))
 intro x1 H3 J2 h
 refine Zo (Zi (.bool (decide ((x1.2 : Int) < (Sl.len p_l : Int)))) (GL.nil (GC.seq (Yd h (fun u4 h => ?_) fun u4 h => ?_))))
 refine GC.skip (GC.seq (GC.block (Zo (Yx h fun p5 h => ?_))))
 obtain ⟨x10, v11, h⟩ := h
 refine Zv (OV.loadT rfl rfl rfl v11) (GL.alloc (cs := Qg.c Qg.zero) h trivial rfl rfl rfl ?_)
 intro b12 H13 h
 refine GL.storeT (p := (b12, 0)) (vs := Qg.c x10) h trivial rfl rfl rfl rfl ?_
 intro H14 h
 refine GL.nil (GC.region (Zm (Zm ?_)))
 obtain ⟨x15, v16, h⟩ := h
 refine Zv (OV.loadT rfl rfl rfl v16) (GL.callU (xv := p_depth) (vs := [.agg (Qg.c x15).toArray]) h trivial rfl rfl rfl ?_)
 rintro _ H18 ⟨r17, rfl, h⟩
 refine Zv (OV.maxI rfl rfl) (Za (GL.nil_to (fun _ _ h => h) (GC.region (Zi (.int .i64 (w .i64 (x1.2 + 1))) (Zm ?_)))))
 exact Yj I3 ((if r17 > x1.1 then r17 else x1.1 : Int), (w .i64 (x1.2 + 1))) h
 refine GC.exit_to (fun _ _ h => h) (Zo (Zm (Za (GL.nil ?_))))
 exact Y1 I3 ⟨x1.1, rfl, h⟩
def Qkq (C : Ctx) (p_t : Qg) (K : Int → Heap → Prop) (H : Heap) : Prop :=
 nw (Qg.c p_t) (fun b1 H2 =>
 ldL H2 ((b1, 0).1, (b1, 0).2 + 5) fun x3 =>
 QU C x3 (.func (.func 116) (List.toArray []) (List.toArray []) : Value) (fun r5 H6 =>
 K r5 H6) H2) H
theorem Qny (C p_t K H) (h : Qkq C p_t K H) : QdQ C p_t K H := by
 refine Ye Tryz.func114 rfl Tryz.ntmps114 [(0, .agg (Qg.c p_t).toArray)] (Zo (GL.box (v := .agg (Qg.c p_t).toArray) (cs := Qg.c p_t) h trivial rfl rfl rfl ?_))
 intro b1 H2 h
 refine Za (GL.nil (Zo (Zf (Yl h fun x3 h => ?_))))
 refine Zc h Qgz ?_
 rintro _ H6 ⟨r5, rfl, h⟩
 refine Za (GL.nil ?_)
 exact Y1 I3 ⟨r5, rfl, h⟩
def QdG (C : Ctx) (p_l : Sl) (p_depth : Value) (K : Int → Heap → Prop) (H : Heap) : Prop :=
 lp (α := Int × Int) (0, 0) H (fun x1 J2 H3 =>
 ift (decide ((x1.2 : Int) < (Sl.len p_l : Int)))
 (ixa p_l x1.2 fun p5 =>
 ldT H3 Qe.c (p5.1, p5.2 + (x1.2 : Int).toNat * 2) fun x10 =>
 nw (Qe.c Qe.zero) (fun b12 H13 =>
 stT (b12, 0) (Qe.c x10) (fun H14 =>
 ldT H14 Qe.c (b12, 0) fun x15 =>
 callU Tryz.prog C p_depth [.agg (Qe.c x15).toArray] H14 (fun v H18 => ∃ (r17 : Int), v = .int .i64 r17 ∧
 J2 ((if r17 > x1.1 then r17 else x1.1 : Int), (w .i64 (x1.2 + 1))) H18)) H13) H3)
 (K x1.1 H3))
theorem Qgn (C p_l p_depth K H) (h : QdG C p_l p_depth K H) : QU C p_l p_depth K H := by
 refine Ye Tryz.func115 rfl Tryz.ntmps115 [(0, slv p_l), (1, p_depth)] (Zo (Za (GL.nil (Zo (Za (GL.nil (GC.seq (Zo (Zm (Zq (Zm (GL.nil (GC.block (Yp h (fun x1 => [(5, .int .i64 x1.1), (10, .int .i64 x1.2), (1, p_depth), (8, slv p_l), (9, .int .i64 (Sl.len p_l : Int))]) ?_))))))))))))))
 intro x1 H3 J2 h
 refine Zo (Zi (.bool (decide ((x1.2 : Int) < (Sl.len p_l : Int)))) (GL.nil (GC.seq (Yd h (fun u4 h => ?_) fun u4 h => ?_))))
 refine GC.skip (GC.seq (GC.block (Zo (Yx h fun p5 h => ?_))))
 obtain ⟨x10, v11, h⟩ := h
 refine Zv (OV.loadT rfl rfl rfl v11) (GL.alloc (cs := Qe.c Qe.zero) h trivial rfl rfl rfl ?_)
 intro b12 H13 h
 refine GL.storeT (p := (b12, 0)) (vs := Qe.c x10) h trivial rfl rfl rfl rfl ?_
 intro H14 h
 refine GL.nil (GC.region (Zm (Zm ?_)))
 obtain ⟨x15, v16, h⟩ := h
 refine Zv (OV.loadT rfl rfl rfl v16) (GL.callU (xv := p_depth) (vs := [.agg (Qe.c x15).toArray]) h trivial rfl rfl rfl ?_)
 rintro _ H18 ⟨r17, rfl, h⟩
 refine Zv (OV.maxI rfl rfl) (Za (GL.nil_to (fun _ _ h => h) (GC.region (Zi (.int .i64 (w .i64 (x1.2 + 1))) (Zm ?_)))))
 exact Yj I3 ((if r17 > x1.1 then r17 else x1.1 : Int), (w .i64 (x1.2 + 1))) h
 refine GC.exit_to (fun _ _ h => h) (Zo (Zm (Za (GL.nil ?_))))
 exact Y1 I3 ⟨x1.1, rfl, h⟩
def QiG (C : Ctx) (p_c : Qe) (K : Int → Heap → Prop) (H : Heap) : Prop :=
 nw (Qe.c p_c) (fun b1 H2 =>
 ldL H2 ((b1, 0).1, (b1, 0).2 + 1) fun x3 =>
 QD C x3 (.func (.func 118) (List.toArray []) (List.toArray []) : Value) (fun r5 H6 =>
 K r5 H6) H2) H
theorem Qma (C p_c K H) (h : QiG C p_c K H) : Qcs C p_c K H := by
 refine Ye Tryz.func116 rfl Tryz.ntmps116 [(0, .agg (Qe.c p_c).toArray)] (Zo (GL.box (v := .agg (Qe.c p_c).toArray) (cs := Qe.c p_c) h trivial rfl rfl rfl ?_))
 intro b1 H2 h
 refine Za (GL.nil (Zo (Zf (Yl h fun x3 h => ?_))))
 refine Zc h Qdj ?_
 rintro _ H6 ⟨r5, rfl, h⟩
 refine Za (GL.nil ?_)
 exact Y1 I3 ⟨r5, rfl, h⟩
def Qdn (C : Ctx) (p_l : Sl) (p_depth : Value) (K : Int → Heap → Prop) (H : Heap) : Prop :=
 lp (α := Int × Int) (0, 0) H (fun x1 J2 H3 =>
 ift (decide ((x1.2 : Int) < (Sl.len p_l : Int)))
 (ixa p_l x1.2 fun p5 =>
 ldT H3 Qc.c (p5.1, p5.2 + (x1.2 : Int).toNat * 3) fun x10 =>
 nw (Qc.c Qc.zero) (fun b12 H13 =>
 stT (b12, 0) (Qc.c x10) (fun H14 =>
 ldT H14 Qc.c (b12, 0) fun x15 =>
 callU Tryz.prog C p_depth [.agg (Qc.c x15).toArray] H14 (fun v H18 => ∃ (r17 : Int), v = .int .i64 r17 ∧
 J2 ((if r17 > x1.1 then r17 else x1.1 : Int), (w .i64 (x1.2 + 1))) H18)) H13) H3)
 (K x1.1 H3))
theorem Qgf (C p_l p_depth K H) (h : Qdn C p_l p_depth K H) : QD C p_l p_depth K H := by
 refine Ye Tryz.func117 rfl Tryz.ntmps117 [(0, slv p_l), (1, p_depth)] (Zo (Za (GL.nil (Zo (Za (GL.nil (GC.seq (Zo (Zm (Zq (Zm (GL.nil (GC.block (Yp h (fun x1 => [(5, .int .i64 x1.1), (10, .int .i64 x1.2), (1, p_depth), (8, slv p_l), (9, .int .i64 (Sl.len p_l : Int))]) ?_))))))))))))))
 intro x1 H3 J2 h
 refine Zo (Zi (.bool (decide ((x1.2 : Int) < (Sl.len p_l : Int)))) (GL.nil (GC.seq (Yd h (fun u4 h => ?_) fun u4 h => ?_))))
 refine GC.skip (GC.seq (GC.block (Zo (Yx h fun p5 h => ?_))))
 obtain ⟨x10, v11, h⟩ := h
 refine Zv (OV.loadT rfl rfl rfl v11) (GL.alloc (cs := Qc.c Qc.zero) h trivial rfl rfl rfl ?_)
 intro b12 H13 h
 refine GL.storeT (p := (b12, 0)) (vs := Qc.c x10) h trivial rfl rfl rfl rfl ?_
 intro H14 h
 refine GL.nil (GC.region (Zm (Zm ?_)))
 obtain ⟨x15, v16, h⟩ := h
 refine Zv (OV.loadT rfl rfl rfl v16) (GL.callU (xv := p_depth) (vs := [.agg (Qc.c x15).toArray]) h trivial rfl rfl rfl ?_)
 rintro _ H18 ⟨r17, rfl, h⟩
 refine Zv (OV.maxI rfl rfl) (Za (GL.nil_to (fun _ _ h => h) (GC.region (Zi (.int .i64 (w .i64 (x1.2 + 1))) (Zm ?_)))))
 exact Yj I3 ((if r17 > x1.1 then r17 else x1.1 : Int), (w .i64 (x1.2 + 1))) h
 refine GC.exit_to (fun _ _ h => h) (Zo (Zm (Za (GL.nil ?_))))
 exact Y1 I3 ⟨x1.1, rfl, h⟩
def Qg6 (C : Ctx) (p_f : Qc) (K : Int → Heap → Prop) (H : Heap) : Prop :=
 nw (Qc.c p_f) (fun b1 H2 =>
 ldT H2 Qf.c ((b1, 0).1, (b1, 0).2 + 1) fun x3 =>
 QbB C x3 (fun r5 H6 =>
 K r5 H6) H2) H
theorem QkV (C p_f K H) (h : Qg6 C p_f K H) : QbQ C p_f K H := by
 refine Ye Tryz.func118 rfl Tryz.ntmps118 [(0, .agg (Qc.c p_f).toArray)] (Zo (GL.box (v := .agg (Qc.c p_f).toArray) (cs := Qc.c p_f) h trivial rfl rfl rfl ?_))
 intro b1 H2 h
 refine Za (GL.nil (Zo (Zf ?_)))
 obtain ⟨x3, v4, h⟩ := h
 refine Zv (OV.loadT rfl rfl rfl v4) (Zc h QhV ?_)
 rintro _ H6 ⟨r5, rfl, h⟩
 refine Za (GL.nil ?_)
 exact Y1 I3 ⟨r5, rfl, h⟩
end
end Sx
end
