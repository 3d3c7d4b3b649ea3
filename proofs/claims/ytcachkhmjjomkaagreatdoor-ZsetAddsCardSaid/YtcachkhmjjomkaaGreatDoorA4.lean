/-
  Texts of this family, one behind the other: Sh, ValQ, ValU, ValP1, ValP2, ValP3, ValP4, ValP5, ValR, ValW, ValX, ValC1, ValO1, SortP, SortQ, ValM, ValN1.
-/
import Derived.Test.YtcachkhmjjomkaaGreatDoorA3
noncomputable section
set_option linter.unusedVariables false
set_option maxRecDepth 100000
namespace Sx
open Go Go.Proofs
def sh_ref02_Depth (C : Ctx) (p_v : T_api_Value) (K : Int → Heap → Prop) (H : Heap) : Prop :=
 nw (T_api_Value.c p_v) (fun b1 H2 =>
 lp (α := Int × Int) (0, 0) H2 (fun x3 J4 H5 =>
 ldL H5 ((b1, 0).1, (b1, 0).2 + 3) fun x6 =>
 ift (decide ((x3.2 : Int) < (Sl.len x6 : Int)))
 (ldL H5 ((b1, 0).1, (b1, 0).2 + 3) fun x9 =>
 ixa x9 x3.2 fun p11 =>
 ldT H5 T_api_Value.c (p11.1, p11.2 + (x3.2 : Int).toNat * 4) fun x16 =>
 c_ref02_Depth C x16 (fun r18 H19 =>
 J4 ((if r18 > x3.1 then r18 else x3.1 : Int), (w .i64 (x3.2 + 1))) H19) H5)
 (K (w .i64 (x3.1 + 1)) H5))) H
theorem ad_ref02_Depth (C : Ctx) (p_v : T_api_Value) (K : Int → Heap → Prop) (H : Heap) (h : sh_ref02_Depth C p_v K H) : c_ref02_Depth C p_v K H := by
 refine Spec.enter Tryz.func101 rfl Tryz.ntmps101 rfl (GC.sub [(0, .agg (T_api_Value.c p_v).toArray)] ⟨rfl, trivial⟩ (Zo (GL.box (v := .agg (T_api_Value.c p_v).toArray) (cs := T_api_Value.c p_v) h trivial rfl rfl rfl ?_)))
 intro b1 H2 h
 refine Za (GL.nil (Zo (Za (GL.nil (GC.seq (Zo (Za (GL.nil (GC.block (GC.loop (α := Int × Int) h (fun x3 => [(3, .int .i64 x3.1), (4, .int .i64 x3.2), (1, pv (some (b1, 0)))]) ⟨rfl, rfl, rfl, trivial⟩ ?_))))))))))
 intro x3 H5 J4 h
 refine GC.seq (Zo (Zm (Zf ?_)))
 obtain ⟨x6, hr7, h⟩ := h
 refine Zl hr7 (Zq (Zi (.bool (decide ((x3.2 : Int) < (Sl.len x6 : Int)))) (GL.nil ?_)))
 refine Zd (fun hc8 => ?_) fun hc8 => ?_
 replace h := h.1 hc8
 refine GC.skip (GC.seq (GC.block (GC.region (Zm (Zf ?_)))))
 obtain ⟨x9, hr10, h⟩ := h
 refine Zl hr10 (Zm ?_)
 obtain ⟨p11, ha12, hb13, hc14, hd15, h⟩ := h
 refine Zx ha12 hb13 hc14 hd15 ?_
 obtain ⟨x16, hr17, h⟩ := h
 refine Zv (OV.loadT rfl rfl rfl hr17) (Zc h ok_ref02_Depth ?_)
 rintro _ H19 ⟨r18, rfl, h⟩
 refine Zv (OV.maxI rfl rfl) (Za (GL.nil_to (fun _ _ h => h) (GC.region (Zm (Zi (.int .i64 (w .i64 (x3.2 + 1))) (Za ?_))))))
 exact GL.jump (fun _ _ h => h) ((if r18 > x3.1 then r18 else x3.1 : Int), (w .i64 (x3.2 + 1))) h ⟨rfl, rfl, rfl, trivial⟩
 replace h := h.2 hc8
 refine GC.exit_to (fun _ _ h => h) (Zo (Zm (Zi (.int .i64 (w .i64 (x3.1 + 1))) (Za (GL.nil ?_)))))
 exact GC.ret (fun _ _ hf hs => post_tmp1 rfl rfl hf hs ⟨(w .i64 (x3.1 + 1)), rfl, h⟩)
def sh_ref02_form (C : Ctx) (p_v : T_api_Value) (K : Bool → Heap → Prop) (H : Heap) : Prop :=
 nw (T_api_Value.c p_v) (fun b1 H2 =>
 jn (α := Bool) (fun x4 H5 =>
 lp (α := Bool × Int) (x4, 0) H5 (fun x101 J102 H103 =>
 ldL H103 ((b1, 0).1, (b1, 0).2 + 3) fun x104 =>
 ift ((decide ((x101.2 : Int) < (Sl.len x104 : Int))) && x101.1)
 (ldL H103 ((b1, 0).1, (b1, 0).2 + 3) fun x108 =>
 ixa x108 x101.2 fun p110 =>
 ldT H103 T_api_Value.c (p110.1, p110.2 + (x101.2 : Int).toNat * 4) fun x115 =>
 c_ref02_form C x115 (fun r117 H118 =>
 J102 (r117, (w .i64 (x101.2 + 1))) H118) H103)
 (K x101.1 H103)))
 (fun J3 => ldI H2 .u8 ((b1, 0).1, (b1, 0).2 + 0) fun x7 =>
 ift ((x7 : Int) == 1)
 (ldI H2 .i64 ((b1, 0).1, (b1, 0).2 + 1) fun x10 =>
 jn (α := Bool) (fun b12 H18 =>
 jn (α := Bool) (fun b19 H25 =>
 jn (α := Bool) (fun b26 H32 =>
 J3 b26 H32)
 (fun J27 => ift b19
 (ldL H25 ((b1, 0).1, (b1, 0).2 + 3) fun x30 =>
 J27 (((Sl.len x30 : Int) : Int) == 0) H25)
 (J27 false H25)))
 (fun J20 => ift b12
 (ldS H18 ((b1, 0).1, (b1, 0).2 + 2) fun x23 =>
 J20 (x23 == ([] : Str)) H18)
 (J20 false H18)))
 (fun J13 => ift ((x10 : Int) == 0)
 (J13 true H2)
 (ldI H2 .i64 ((b1, 0).1, (b1, 0).2 + 1) fun x16 =>
 J13 ((x16 : Int) == 1) H2)))
 (ift ((x7 : Int) == 2)
 (ldS H2 ((b1, 0).1, (b1, 0).2 + 2) fun x34 =>
 jn (α := Bool) (fun b36 H42 =>
 J3 b36 H42)
 (fun J37 => ift (x34 == ([] : Str))
 (ldL H2 ((b1, 0).1, (b1, 0).2 + 3) fun x40 =>
 J37 (((Sl.len x40 : Int) : Int) == 0) H2)
 (J37 false H2)))
 (ift ((x7 : Int) == 3)
 (ldI H2 .i64 ((b1, 0).1, (b1, 0).2 + 1) fun x44 =>
 jn (α := Bool) (fun b46 H52 =>
 jn (α := Bool) (fun b53 H61 =>
 J3 b53 H61)
 (fun J54 => ift b46
 (ldS H52 ((b1, 0).1, (b1, 0).2 + 2) fun x57 =>
 c_ref02_Number C x57 (fun r59 H60 =>
 J54 r59 H60) H52)
 (J54 false H52)))
 (fun J47 => ift ((x44 : Int) == 0)
 (ldL H2 ((b1, 0).1, (b1, 0).2 + 3) fun x50 =>
 J47 (((Sl.len x50 : Int) : Int) == 0) H2)
 (J47 false H2)))
 (ift ((x7 : Int) == 4)
 (ldI H2 .i64 ((b1, 0).1, (b1, 0).2 + 1) fun x63 =>
 jn (α := Bool) (fun b65 H71 =>
 J3 b65 H71)
 (fun J66 => ift ((x63 : Int) == 0)
 (ldL H2 ((b1, 0).1, (b1, 0).2 + 3) fun x69 =>
 J66 (((Sl.len x69 : Int) : Int) == 0) H2)
 (J66 false H2)))
 (ift ((x7 : Int) == 5)
 (ldI H2 .i64 ((b1, 0).1, (b1, 0).2 + 1) fun x73 =>
 jn (α := Bool) (fun b75 H81 =>
 jn (α := Bool) (fun b82 H88 =>
 J3 b82 H88)
 (fun J83 => ift b75
 (ldL H81 ((b1, 0).1, (b1, 0).2 + 3) fun x86 =>
 J83 (((Sl.len x86 : Int) : Int) != 1) H81)
 (J83 false H81)))
 (fun J76 => ift ((x73 : Int) == 0)
 (ldS H2 ((b1, 0).1, (b1, 0).2 + 2) fun x79 =>
 J76 (x79 == ([] : Str)) H2)
 (J76 false H2)))
 (ift ((x7 : Int) == 6)
 (ldI H2 .i64 ((b1, 0).1, (b1, 0).2 + 1) fun x90 =>
 jn (α := Bool) (fun b92 H100 =>
 J3 b92 H100)
 (fun J93 => ift ((x90 : Int) == 0)
 (ldS H2 ((b1, 0).1, (b1, 0).2 + 2) fun x96 =>
 c_ref02_Names C x96 (fun r98 H99 =>
 J93 r98 H99) H2)
 (J93 false H2)))
 (J3 false H2)))))))) H
theorem ad_ref02_form (C : Ctx) (p_v : T_api_Value) (K : Bool → Heap → Prop) (H : Heap) (h : sh_ref02_form C p_v K H) : c_ref02_form C p_v K H := by
 refine Spec.enter Tryz.func102 rfl Tryz.ntmps102 rfl (GC.sub [(0, .agg (T_api_Value.c p_v).toArray)] ⟨rfl, trivial⟩ (Zo (GL.box (v := .agg (T_api_Value.c p_v).toArray) (cs := T_api_Value.c p_v) h trivial rfl rfl rfl ?_)))
 intro b1 H2 h
 refine Za (GL.nil (Zo (Za (GL.nil ?_))))
 obtain ⟨J3, h, hR6⟩ := h
 refine GC.join (α := Bool) J3 (fun x4 => [(3, .bool x4), (1, pv (some (b1, 0)))]) ?_ ?_
 refine Zo (Zf ?_)
 obtain ⟨x7, hr8, h⟩ := h
 refine Zl hr8 (GL.nil (GC.block (Zo (Zi (.bool ((x7 : Int) == 1)) (Za (GL.nil ?_))))))
 refine Zd (fun hc9 => ?_) fun hc9 => ?_
 replace h := h.1 hc9
 refine GC.region (Zf ?_)
 obtain ⟨x10, hr11, h⟩ := h
 refine Zl hr11 (Zi (.bool ((x10 : Int) == 0)) (Zm ?_))
 obtain ⟨J13, h, hR14⟩ := h
 refine GL.cut (α := Bool) 4 J13 (fun b12 => [(16, .bool b12), (1, pv (some (b1, 0)))]) ?_ ?_
 rcases Zb ((x10 : Int) == 0) with hc15 | hc15
 replace h := h.1 hc15
 refine Zk hc15 (Zk hc15 (Zk hc15 (Zt hc15 ?_)))
 exact GL.jump (fun _ _ h => h) true h ⟨rfl, rfl, trivial⟩
 replace h := h.2 hc15
 refine Zu hc15 (OV.fieldAddr rfl rfl) ?_
 obtain ⟨x16, hr17, h⟩ := h
 refine Zu hc15 (OV.load rfl rfl hr17) (Zu hc15 (OV.ibin (v := .bool ((x16 : Int) == 1)) rfl rfl rfl) (Zn hc15 ?_))
 exact GL.jump (fun _ _ h => h) ((x16 : Int) == 1) h ⟨rfl, rfl, trivial⟩
 intro b12 H18 h
 replace h := hR14 b12 H18 h
 refine Zm ?_
 obtain ⟨J20, h, hR21⟩ := h
 refine GL.cut (α := Bool) 4 J20 (fun b19 => [(21, .bool b19), (1, pv (some (b1, 0)))]) ?_ ?_
 rcases Bool.eq_false_or_eq_true b12 with hc22 | hc22
 replace h := h.1 hc22
 refine Zu hc22 (OV.fieldAddr rfl rfl) ?_
 obtain ⟨x23, hr24, h⟩ := h
 refine Zu hc22 (OV.load rfl rfl hr24) (Zu hc22 (OV.sbin (a := x23) (b := ([] : Str)) (v := .bool (x23 == ([] : Str))) rfl rfl rfl) (Zt hc22 ?_))
 exact GL.jump (fun _ _ h => h) (x23 == ([] : Str)) h ⟨rfl, rfl, trivial⟩
 replace h := h.2 hc22
 refine Zk hc22 (Zk hc22 (Zk hc22 (Zn hc22 ?_)))
 exact GL.jump (fun _ _ h => h) false h ⟨rfl, rfl, trivial⟩
 intro b19 H25 h
 replace h := hR21 b19 H25 h
 refine Zm ?_
 obtain ⟨J27, h, hR28⟩ := h
 refine GL.cut (α := Bool) 5 J27 (fun b26 => [(27, .bool b26), (1, pv (some (b1, 0)))]) ?_ ?_
 rcases Bool.eq_false_or_eq_true b19 with hc29 | hc29
 replace h := h.1 hc29
 refine Zu hc29 (OV.fieldAddr rfl rfl) ?_
 obtain ⟨x30, hr31, h⟩ := h
 refine Zu hc29 (OV.load rfl rfl hr31) (Zu hc29 (OV.lenSl rfl rfl) (Zu hc29 (OV.ibin (v := .bool (((Sl.len x30 : Int) : Int) == 0)) rfl rfl rfl) (Zt hc29 ?_)))
 exact GL.jump (fun _ _ h => h) (((Sl.len x30 : Int) : Int) == 0) h ⟨rfl, rfl, trivial⟩
 replace h := h.2 hc29
 refine Zk hc29 (Zk hc29 (Zk hc29 (Zk hc29 (Zn hc29 ?_))))
 exact GL.jump (fun _ _ h => h) false h ⟨rfl, rfl, trivial⟩
 intro b26 H32 h
 replace h := hR28 b26 H32 h
 refine Za ?_
 exact GL.jump (fun _ _ h => h) b26 h ⟨rfl, rfl, trivial⟩
 replace h := h.2 hc9
 refine Zo (Zi (.bool ((x7 : Int) == 2)) (Za (GL.nil ?_)))
 refine Zd (fun hc33 => ?_) fun hc33 => ?_
 replace h := h.1 hc33
 refine GC.region (Zf ?_)
 obtain ⟨x34, hr35, h⟩ := h
 refine Zl hr35 (Zv (OV.sbin (a := x34) (b := ([] : Str)) (v := .bool (x34 == ([] : Str))) rfl rfl rfl) (Zm ?_))
 obtain ⟨J37, h, hR38⟩ := h
 refine GL.cut (α := Bool) 5 J37 (fun b36 => [(38, .bool b36), (1, pv (some (b1, 0)))]) ?_ ?_
 rcases Zb (x34 == ([] : Str)) with hc39 | hc39
 replace h := h.1 hc39
 refine Zu hc39 (OV.fieldAddr rfl rfl) ?_
 obtain ⟨x40, hr41, h⟩ := h
 refine Zu hc39 (OV.load rfl rfl hr41) (Zu hc39 (OV.lenSl rfl rfl) (Zu hc39 (OV.ibin (v := .bool (((Sl.len x40 : Int) : Int) == 0)) rfl rfl rfl) (Zt hc39 ?_)))
 exact GL.jump (fun _ _ h => h) (((Sl.len x40 : Int) : Int) == 0) h ⟨rfl, rfl, trivial⟩
 replace h := h.2 hc39
 refine Zk hc39 (Zk hc39 (Zk hc39 (Zk hc39 (Zn hc39 ?_))))
 exact GL.jump (fun _ _ h => h) false h ⟨rfl, rfl, trivial⟩
 intro b36 H42 h
 replace h := hR38 b36 H42 h
 refine Za ?_
 exact GL.jump (fun _ _ h => h) b36 h ⟨rfl, rfl, trivial⟩
 replace h := h.2 hc33
 refine Zo (Zi (.bool ((x7 : Int) == 3)) (Za (GL.nil ?_)))
 refine Zd (fun hc43 => ?_) fun hc43 => ?_
 replace h := h.1 hc43
 refine GC.region (Zf ?_)
 obtain ⟨x44, hr45, h⟩ := h
 refine Zl hr45 (Zi (.bool ((x44 : Int) == 0)) (Zm ?_))
 obtain ⟨J47, h, hR48⟩ := h
 refine GL.cut (α := Bool) 5 J47 (fun b46 => [(49, .bool b46), (1, pv (some (b1, 0)))]) ?_ ?_
 rcases Zb ((x44 : Int) == 0) with hc49 | hc49
 replace h := h.1 hc49
 refine Zu hc49 (OV.fieldAddr rfl rfl) ?_
 obtain ⟨x50, hr51, h⟩ := h
 refine Zu hc49 (OV.load rfl rfl hr51) (Zu hc49 (OV.lenSl rfl rfl) (Zu hc49 (OV.ibin (v := .bool (((Sl.len x50 : Int) : Int) == 0)) rfl rfl rfl) (Zt hc49 ?_)))
 exact GL.jump (fun _ _ h => h) (((Sl.len x50 : Int) : Int) == 0) h ⟨rfl, rfl, trivial⟩
 replace h := h.2 hc49
 refine Zk hc49 (Zk hc49 (Zk hc49 (Zk hc49 (Zn hc49 ?_))))
 exact GL.jump (fun _ _ h => h) false h ⟨rfl, rfl, trivial⟩
 intro b46 H52 h
 replace h := hR48 b46 H52 h
 refine Zm ?_
 obtain ⟨J54, h, hR55⟩ := h
 refine GL.cut (α := Bool) 4 J54 (fun b53 => [(54, .bool b53), (1, pv (some (b1, 0)))]) ?_ ?_
 rcases Bool.eq_false_or_eq_true b46 with hc56 | hc56
 replace h := h.1 hc56
 refine Zu hc56 (OV.fieldAddr rfl rfl) ?_
 obtain ⟨x57, hr58, h⟩ := h
 refine Zu hc56 (OV.load rfl rfl hr58) (GL.call h ⟨_, _, rfl, rfl, hc56⟩ rfl ok_ref02_Number (vs := [sv x57]) rfl ?_)
 rintro _ H60 ⟨r59, rfl, h⟩
 refine Zt hc56 ?_
 exact GL.jump (fun _ _ h => h) r59 h ⟨rfl, rfl, trivial⟩
 replace h := h.2 hc56
 refine Zk hc56 (Zk hc56 (Zk hc56 (Zn hc56 ?_)))
 exact GL.jump (fun _ _ h => h) false h ⟨rfl, rfl, trivial⟩
 intro b53 H61 h
 replace h := hR55 b53 H61 h
 refine Za ?_
 exact GL.jump (fun _ _ h => h) b53 h ⟨rfl, rfl, trivial⟩
 replace h := h.2 hc43
 refine Zo (Zi (.bool ((x7 : Int) == 4)) (Za (GL.nil ?_)))
 refine Zd (fun hc62 => ?_) fun hc62 => ?_
 replace h := h.1 hc62
 refine GC.region (Zf ?_)
 obtain ⟨x63, hr64, h⟩ := h
 refine Zl hr64 (Zi (.bool ((x63 : Int) == 0)) (Zm ?_))
 obtain ⟨J66, h, hR67⟩ := h
 refine GL.cut (α := Bool) 5 J66 (fun b65 => [(65, .bool b65), (1, pv (some (b1, 0)))]) ?_ ?_
 rcases Zb ((x63 : Int) == 0) with hc68 | hc68
 replace h := h.1 hc68
 refine Zu hc68 (OV.fieldAddr rfl rfl) ?_
 obtain ⟨x69, hr70, h⟩ := h
 refine Zu hc68 (OV.load rfl rfl hr70) (Zu hc68 (OV.lenSl rfl rfl) (Zu hc68 (OV.ibin (v := .bool (((Sl.len x69 : Int) : Int) == 0)) rfl rfl rfl) (Zt hc68 ?_)))
 exact GL.jump (fun _ _ h => h) (((Sl.len x69 : Int) : Int) == 0) h ⟨rfl, rfl, trivial⟩
 replace h := h.2 hc68
 refine Zk hc68 (Zk hc68 (Zk hc68 (Zk hc68 (Zn hc68 ?_))))
 exact GL.jump (fun _ _ h => h) false h ⟨rfl, rfl, trivial⟩
 intro b65 H71 h
 replace h := hR67 b65 H71 h
 refine Za ?_
 exact GL.jump (fun _ _ h => h) b65 h ⟨rfl, rfl, trivial⟩
 replace h := h.2 hc62
 refine Zo (Zi (.bool ((x7 : Int) == 5)) (Za (GL.nil ?_)))
 refine Zd (fun hc72 => ?_) fun hc72 => ?_
 replace h := h.1 hc72
 refine GC.region (Zf ?_)
 obtain ⟨x73, hr74, h⟩ := h
 refine Zl hr74 (Zi (.bool ((x73 : Int) == 0)) (Zm ?_))
 obtain ⟨J76, h, hR77⟩ := h
 refine GL.cut (α := Bool) 4 J76 (fun b75 => [(75, .bool b75), (1, pv (some (b1, 0)))]) ?_ ?_
 rcases Zb ((x73 : Int) == 0) with hc78 | hc78
 replace h := h.1 hc78
 refine Zu hc78 (OV.fieldAddr rfl rfl) ?_
 obtain ⟨x79, hr80, h⟩ := h
 refine Zu hc78 (OV.load rfl rfl hr80) (Zu hc78 (OV.sbin (a := x79) (b := ([] : Str)) (v := .bool (x79 == ([] : Str))) rfl rfl rfl) (Zt hc78 ?_))
 exact GL.jump (fun _ _ h => h) (x79 == ([] : Str)) h ⟨rfl, rfl, trivial⟩
 replace h := h.2 hc78
 refine Zk hc78 (Zk hc78 (Zk hc78 (Zn hc78 ?_)))
 exact GL.jump (fun _ _ h => h) false h ⟨rfl, rfl, trivial⟩
 intro b75 H81 h
 replace h := hR77 b75 H81 h
 refine Zm ?_
 obtain ⟨J83, h, hR84⟩ := h
 refine GL.cut (α := Bool) 5 J83 (fun b82 => [(81, .bool b82), (1, pv (some (b1, 0)))]) ?_ ?_
 rcases Bool.eq_false_or_eq_true b75 with hc85 | hc85
 replace h := h.1 hc85
 refine Zu hc85 (OV.fieldAddr rfl rfl) ?_
 obtain ⟨x86, hr87, h⟩ := h
 refine Zu hc85 (OV.load rfl rfl hr87) (Zu hc85 (OV.lenSl rfl rfl) (Zu hc85 (OV.ibin (v := .bool (((Sl.len x86 : Int) : Int) != 1)) rfl rfl rfl) (Zt hc85 ?_)))
 exact GL.jump (fun _ _ h => h) (((Sl.len x86 : Int) : Int) != 1) h ⟨rfl, rfl, trivial⟩
 replace h := h.2 hc85
 refine Zk hc85 (Zk hc85 (Zk hc85 (Zk hc85 (Zn hc85 ?_))))
 exact GL.jump (fun _ _ h => h) false h ⟨rfl, rfl, trivial⟩
 intro b82 H88 h
 replace h := hR84 b82 H88 h
 refine Za ?_
 exact GL.jump (fun _ _ h => h) b82 h ⟨rfl, rfl, trivial⟩
 replace h := h.2 hc72
 refine Zo (Zi (.bool ((x7 : Int) == 6)) (Za (GL.nil ?_)))
 refine Zd (fun hc89 => ?_) fun hc89 => ?_
 replace h := h.1 hc89
 refine GC.region (Zf ?_)
 obtain ⟨x90, hr91, h⟩ := h
 refine Zl hr91 (Zi (.bool ((x90 : Int) == 0)) (Zm ?_))
 obtain ⟨J93, h, hR94⟩ := h
 refine GL.cut (α := Bool) 4 J93 (fun b92 => [(91, .bool b92), (1, pv (some (b1, 0)))]) ?_ ?_
 rcases Zb ((x90 : Int) == 0) with hc95 | hc95
 replace h := h.1 hc95
 refine Zu hc95 (OV.fieldAddr rfl rfl) ?_
 obtain ⟨x96, hr97, h⟩ := h
 refine Zu hc95 (OV.load rfl rfl hr97) (GL.call h ⟨_, _, rfl, rfl, hc95⟩ rfl ok_ref02_Names (vs := [sv x96]) rfl ?_)
 rintro _ H99 ⟨r98, rfl, h⟩
 refine Zt hc95 ?_
 exact GL.jump (fun _ _ h => h) r98 h ⟨rfl, rfl, trivial⟩
 replace h := h.2 hc95
 refine Zk hc95 (Zk hc95 (Zk hc95 (Zn hc95 ?_)))
 exact GL.jump (fun _ _ h => h) false h ⟨rfl, rfl, trivial⟩
 intro b92 H100 h
 replace h := hR94 b92 H100 h
 refine Za ?_
 exact GL.jump (fun _ _ h => h) b92 h ⟨rfl, rfl, trivial⟩
 replace h := h.2 hc89
 exact GC.jump (fun _ _ h => h) false h ⟨rfl, rfl, trivial⟩
 intro x4 H5 h
 replace h := hR6 x4 H5 h
 refine GC.seq (Zo (Za (GL.nil (GC.block (GC.loop (α := Bool × Int) h (fun x101 => [(3, .bool x101.1), (4, .int .i64 x101.2), (1, pv (some (b1, 0)))]) ⟨rfl, rfl, rfl, trivial⟩ ?_)))))
 intro x101 H103 J102 h
 refine GC.seq (Zo (Zm (Zf ?_)))
 obtain ⟨x104, hr105, h⟩ := h
 refine Zl hr105 (Zq (Zi (.bool (decide ((x101.2 : Int) < (Sl.len x104 : Int)))) (Zm ?_)))
 refine GL.cut0 2 [(99, .bool ((decide ((x101.2 : Int) < (Sl.len x104 : Int))) && x101.1)), (1, pv (some (b1, 0))), (3, .bool x101.1), (4, .int .i64 x101.2)] ?_ ?_
 rcases Zb (decide ((x101.2 : Int) < (Sl.len x104 : Int))) with hc106 | hc106
 refine Zu hc106 (OV.move rfl) (Zt hc106 ?_)
 exact GL.jump0 (fun _ _ h => h) () rfl ⟨(by rw [hc106]; rfl), rfl, rfl, rfl, trivial⟩
 refine Zk hc106 (Zn hc106 ?_)
 exact GL.jump0 (fun _ _ h => h) () rfl ⟨(by rw [hc106]; rfl), rfl, rfl, rfl, trivial⟩
 refine GL.nil ?_
 refine Zd (fun hc107 => ?_) fun hc107 => ?_
 replace h := h.1 hc107
 refine GC.skip (GC.seq (GC.block (GC.region (Zf ?_))))
 obtain ⟨x108, hr109, h⟩ := h
 refine Zl hr109 (Zm ?_)
 obtain ⟨p110, ha111, hb112, hc113, hd114, h⟩ := h
 refine Zx ha111 hb112 hc113 hd114 ?_
 obtain ⟨x115, hr116, h⟩ := h
 refine Zv (OV.loadT rfl rfl rfl hr116) (Zc h ok_ref02_form ?_)
 rintro _ H118 ⟨r117, rfl, h⟩
 refine Za (GL.nil_to (fun _ _ h => h) (GC.region (Zm (Zi (.int .i64 (w .i64 (x101.2 + 1))) (Za ?_)))))
 exact GL.jump (fun _ _ h => h) (r117, (w .i64 (x101.2 + 1))) h ⟨rfl, rfl, rfl, trivial⟩
 replace h := h.2 hc107
 refine GC.exit_to (fun _ _ h => h) (Zo (Zm (Za (GL.nil ?_))))
 exact GC.ret (fun _ _ hf hs => post_tmp1 rfl rfl hf hs ⟨x101.1, rfl, h⟩)
def sh_ref02_fits (C : Ctx) (p_v : T_api_Value) (K : Bool → Heap → Prop) (H : Heap) : Prop :=
 nw (T_api_Value.c p_v) (fun b1 H2 =>
 jn (α := Bool) (fun x4 H5 =>
 lp (α := Bool × Int) (x4, 0) H5 (fun x23 J24 H25 =>
 ldL H25 ((b1, 0).1, (b1, 0).2 + 3) fun x26 =>
 ift ((decide ((x23.2 : Int) < (Sl.len x26 : Int))) && x23.1)
 (ldL H25 ((b1, 0).1, (b1, 0).2 + 3) fun x30 =>
 ixa x30 x23.2 fun p32 =>
 ldT H25 T_api_Value.c (p32.1, p32.2 + (x23.2 : Int).toNat * 4) fun x37 =>
 c_ref02_fits C x37 (fun r39 H40 =>
 J24 (r39, (w .i64 (x23.2 + 1))) H40) H25)
 (K x23.1 H25)))
 (fun J3 => ldI H2 .u8 ((b1, 0).1, (b1, 0).2 + 0) fun x7 =>
 ift ((x7 : Int) == 3)
 (ldS H2 ((b1, 0).1, (b1, 0).2 + 2) fun x10 =>
 c_ref02_Digits C x10 (fun r12 H13 =>
 J3 (decide ((r12 : Int) ≤ 200)) H13) H2)
 (ift ((x7 : Int) == 4)
 (ldS H2 ((b1, 0).1, (b1, 0).2 + 2) fun x15 =>
 J3 (decide (((List.length x15 : Int) : Int) ≤ 4096)) H2)
 (ift ((x7 : Int) == 5)
 (ldL H2 ((b1, 0).1, (b1, 0).2 + 3) fun x18 =>
 J3 (decide (((Sl.len x18 : Int) : Int) ≤ 16)) H2)
 (ift ((x7 : Int) == 6)
 (ldL H2 ((b1, 0).1, (b1, 0).2 + 3) fun x21 =>
 J3 (decide (((Sl.len x21 : Int) : Int) ≤ 8)) H2)
 (J3 true H2)))))) H
theorem ad_ref02_fits (C : Ctx) (p_v : T_api_Value) (K : Bool → Heap → Prop) (H : Heap) (h : sh_ref02_fits C p_v K H) : c_ref02_fits C p_v K H := by
 refine Spec.enter Tryz.func103 rfl Tryz.ntmps103 rfl (GC.sub [(0, .agg (T_api_Value.c p_v).toArray)] ⟨rfl, trivial⟩ (Zo (GL.box (v := .agg (T_api_Value.c p_v).toArray) (cs := T_api_Value.c p_v) h trivial rfl rfl rfl ?_)))
 intro b1 H2 h
 refine Za (GL.nil (Zo (Za (GL.nil ?_))))
 obtain ⟨J3, h, hR6⟩ := h
 refine GC.join (α := Bool) J3 (fun x4 => [(3, .bool x4), (1, pv (some (b1, 0)))]) ?_ ?_
 refine Zo (Zf ?_)
 obtain ⟨x7, hr8, h⟩ := h
 refine Zl hr8 (GL.nil (GC.block (Zo (Zi (.bool ((x7 : Int) == 3)) (Za (GL.nil ?_))))))
 refine Zd (fun hc9 => ?_) fun hc9 => ?_
 replace h := h.1 hc9
 refine GC.region (Zf ?_)
 obtain ⟨x10, hr11, h⟩ := h
 refine Zl hr11 (Zc h ok_ref02_Digits ?_)
 rintro _ H13 ⟨r12, rfl, h⟩
 refine Zi (.bool (decide ((r12 : Int) ≤ 200))) (Za ?_)
 exact GL.jump (fun _ _ h => h) (decide ((r12 : Int) ≤ 200)) h ⟨rfl, rfl, trivial⟩
 replace h := h.2 hc9
 refine Zo (Zi (.bool ((x7 : Int) == 4)) (Za (GL.nil ?_)))
 refine Zd (fun hc14 => ?_) fun hc14 => ?_
 replace h := h.1 hc14
 refine GC.region (Zf ?_)
 obtain ⟨x15, hr16, h⟩ := h
 refine Zl hr16 (Zr (Zi (.bool (decide (((List.length x15 : Int) : Int) ≤ 4096))) (Za ?_)))
 exact GL.jump (fun _ _ h => h) (decide (((List.length x15 : Int) : Int) ≤ 4096)) h ⟨rfl, rfl, trivial⟩
 replace h := h.2 hc14
 refine Zo (Zi (.bool ((x7 : Int) == 5)) (Za (GL.nil ?_)))
 refine Zd (fun hc17 => ?_) fun hc17 => ?_
 replace h := h.1 hc17
 refine GC.region (Zf ?_)
 obtain ⟨x18, hr19, h⟩ := h
 refine Zl hr19 (Zq (Zi (.bool (decide (((Sl.len x18 : Int) : Int) ≤ 16))) (Za ?_)))
 exact GL.jump (fun _ _ h => h) (decide (((Sl.len x18 : Int) : Int) ≤ 16)) h ⟨rfl, rfl, trivial⟩
 replace h := h.2 hc17
 refine Zo (Zi (.bool ((x7 : Int) == 6)) (Za (GL.nil ?_)))
 refine Zd (fun hc20 => ?_) fun hc20 => ?_
 replace h := h.1 hc20
 refine GC.region (Zf ?_)
 obtain ⟨x21, hr22, h⟩ := h
 refine Zl hr22 (Zq (Zi (.bool (decide (((Sl.len x21 : Int) : Int) ≤ 8))) (Za ?_)))
 exact GL.jump (fun _ _ h => h) (decide (((Sl.len x21 : Int) : Int) ≤ 8)) h ⟨rfl, rfl, trivial⟩
 replace h := h.2 hc20
 exact GC.jump (fun _ _ h => h) true h ⟨rfl, rfl, trivial⟩
 intro x4 H5 h
 replace h := hR6 x4 H5 h
 refine GC.seq (Zo (Za (GL.nil (GC.block (GC.loop (α := Bool × Int) h (fun x23 => [(3, .bool x23.1), (4, .int .i64 x23.2), (1, pv (some (b1, 0)))]) ⟨rfl, rfl, rfl, trivial⟩ ?_)))))
 intro x23 H25 J24 h
 refine GC.seq (Zo (Zm (Zf ?_)))
 obtain ⟨x26, hr27, h⟩ := h
 refine Zl hr27 (Zq (Zi (.bool (decide ((x23.2 : Int) < (Sl.len x26 : Int)))) (Zm ?_)))
 refine GL.cut0 2 [(38, .bool ((decide ((x23.2 : Int) < (Sl.len x26 : Int))) && x23.1)), (1, pv (some (b1, 0))), (3, .bool x23.1), (4, .int .i64 x23.2)] ?_ ?_
 rcases Zb (decide ((x23.2 : Int) < (Sl.len x26 : Int))) with hc28 | hc28
 refine Zu hc28 (OV.move rfl) (Zt hc28 ?_)
 exact GL.jump0 (fun _ _ h => h) () rfl ⟨(by rw [hc28]; rfl), rfl, rfl, rfl, trivial⟩
 refine Zk hc28 (Zn hc28 ?_)
 exact GL.jump0 (fun _ _ h => h) () rfl ⟨(by rw [hc28]; rfl), rfl, rfl, rfl, trivial⟩
 refine GL.nil ?_
 refine Zd (fun hc29 => ?_) fun hc29 => ?_
 replace h := h.1 hc29
 refine GC.skip (GC.seq (GC.block (GC.region (Zf ?_))))
 obtain ⟨x30, hr31, h⟩ := h
 refine Zl hr31 (Zm ?_)
 obtain ⟨p32, ha33, hb34, hc35, hd36, h⟩ := h
 refine Zx ha33 hb34 hc35 hd36 ?_
 obtain ⟨x37, hr38, h⟩ := h
 refine Zv (OV.loadT rfl rfl rfl hr38) (Zc h ok_ref02_fits ?_)
 rintro _ H40 ⟨r39, rfl, h⟩
 refine Za (GL.nil_to (fun _ _ h => h) (GC.region (Zm (Zi (.int .i64 (w .i64 (x23.2 + 1))) (Za ?_)))))
 exact GL.jump (fun _ _ h => h) (r39, (w .i64 (x23.2 + 1))) h ⟨rfl, rfl, rfl, trivial⟩
 replace h := h.2 hc29
 refine GC.exit_to (fun _ _ h => h) (Zo (Zm (Za (GL.nil ?_))))
 exact GC.ret (fun _ _ hf hs => post_tmp1 rfl rfl hf hs ⟨x23.1, rfl, h⟩)
def sh_ref02_Bigs (C : Ctx) (p_a : Str) (p_b : Str) (K : Int → Heap → Prop) (H : Heap) : Prop :=
 ixs p_a 0 fun c1 =>
 ixs p_b 0 fun c4 =>
 ift (!((((c1.toNat : Int) : Int) == 45) == (((c4.toNat : Int) : Int) == 45)))
 (ift (((c1.toNat : Int) : Int) == 45)
 (K (-1) H)
 (K 1 H))
 (ift (((c1.toNat : Int) : Int) == 45)
 (dr H fun Hs10 =>
 slS p_b 1 (List.length p_b : Int) fun t12 =>
 slS p_a 1 (List.length p_a : Int) fun t18 =>
 c_ref02_Bigs C t12 t18 (fun r25 H26 =>
 Heap.le Hs10 H26 ∧
 K r25 H26) H)
 (ift (((List.length p_a : Int) : Int) != (List.length p_b : Int))
 (c_ref02_ints C (List.length p_a : Int) (List.length p_b : Int) (fun r28 H29 =>
 K r28 H29) H)
 (c_ref02_texts C p_a p_b (fun r30 H31 =>
 K r30 H31) H)))
theorem ad_ref02_Bigs (C : Ctx) (p_a : Str) (p_b : Str) (K : Int → Heap → Prop) (H : Heap) (h : sh_ref02_Bigs C p_a p_b K H) : c_ref02_Bigs C p_a p_b K H := by
 refine Spec.enter Tryz.func104 rfl Tryz.ntmps104 rfl (GC.sub [(0, sv p_a), (1, sv p_b)] ⟨rfl, rfl, trivial⟩ (Zo (Za (GL.nil (GC.seq (GC.draw (by kernel_rfl) (by kernel_rfl) (GQ.val trivial rfl (OV.move (v := sv p_a) rfl) ?_)))))))
 obtain ⟨c1, ha2, hb3, h⟩ := h
 refine GQ.val trivial rfl (OV.indexStr (s := p_a) rfl rfl rfl ha2 hb3) (GQ.val trivial rfl (OV.ibin (v := .bool (((c1.toNat : Int) : Int) == 45)) rfl rfl rfl) (GQ.val trivial rfl (OV.move (v := sv p_b) rfl) ?_))
 obtain ⟨c4, ha5, hb6, h⟩ := h
 refine GQ.val trivial rfl (OV.indexStr (s := p_b) rfl rfl rfl ha5 hb6) (GQ.val trivial rfl (OV.ibin (v := .bool (((c4.toNat : Int) : Int) == 45)) rfl rfl rfl) (GQ.val trivial rfl (OV.assign (v := .bool (((c1.toNat : Int) : Int) == 45)) rfl) (GQ.val trivial rfl (OV.assign (v := .bool (((c4.toNat : Int) : Int) == 45)) rfl) (GQ.nil (GL.nil (GC.seq (Zo (Zm (Zm (Zv (OV.neqBool rfl rfl rfl) (GL.nil ?_)))))))))))
 refine Zd (fun hc7 => ?_) fun hc7 => ?_
 replace h := h.1 hc7
 refine GC.seq (Zo (Zm (GL.nil ?_)))
 refine Zd (fun hc8 => ?_) fun hc8 => ?_
 replace h := h.1 hc8
 refine Zo (Za (GL.nil ?_))
 exact GC.ret (fun _ _ hf hs => post_tmp1 rfl rfl hf hs ⟨(-1), rfl, h⟩)
 replace h := h.2 hc8
 refine GC.skip (Zo (Za (GL.nil ?_)))
 exact GC.ret (fun _ _ hf hs => post_tmp1 rfl rfl hf hs ⟨1, rfl, h⟩)
 replace h := h.2 hc7
 refine GC.skip (GC.seq (Zo (Zm (GL.nil ?_))))
 refine Zd (fun hc9 => ?_) fun hc9 => ?_
 replace h := h.1 hc9
 refine GC.seq ?_
 obtain ⟨Hs10, hle11, h⟩ := h
 refine GC.any (Hs := Hs10) (by kernel_rfl) hle11 (Zp 0 rfl (OV.move rfl) ?_)
 obtain ⟨h13, h14, h15, t12, h16, h⟩ := h
 refine Zp 1 rfl (OV.sliceStr (s := p_b) h13 h14 h15 h16 rfl rfl rfl rfl rfl rfl) (Zp 2 rfl (OV.move rfl) ?_)
 obtain ⟨h19, h20, h21, t18, h22, h⟩ := h
 refine Zp 3 rfl (OV.sliceStr (s := p_a) h19 h20 h21 h22 rfl rfl rfl rfl rfl rfl) (GA.eff 4 rfl (by kernel_rfl) (Zc h ok_ref02_Bigs ?_))
 rintro _ H26 ⟨r25, rfl, h⟩
 obtain ⟨hle24, h⟩ := h
 refine GA.back hle24 (Zp 5 rfl (OV.assign rfl) (GA.done (by kernel_rfl) (GL.nil ?_)))
 exact GC.ret (fun _ _ hf hs => post_tmp1 rfl rfl hf hs ⟨r25, rfl, h⟩)
 replace h := h.2 hc9
 refine GC.skip (GC.seq (Zo (Zm (Zr (Zm (Zr (Zi (.bool (((List.length p_a : Int) : Int) != (List.length p_b : Int))) (GL.nil ?_))))))))
 refine Zd (fun hc27 => ?_) fun hc27 => ?_
 replace h := h.1 hc27
 refine Zo (Zm (Zr (Zm (Zr (Zc h ok_ref02_ints ?_)))))
 rintro _ H29 ⟨r28, rfl, h⟩
 refine Za (GL.nil ?_)
 exact GC.ret (fun _ _ hf hs => post_tmp1 rfl rfl hf hs ⟨r28, rfl, h⟩)
 replace h := h.2 hc27
 refine GC.skip (Zo (Zm (Zm (Zc h ok_ref02_texts ?_))))
 rintro _ H31 ⟨r30, rfl, h⟩
 refine Za (GL.nil ?_)
 exact GC.ret (fun _ _ hf hs => post_tmp1 rfl rfl hf hs ⟨r30, rfl, h⟩)
def sh_ref02_texts (C : Ctx) (p_a : Str) (p_b : Str) (K : Int → Heap → Prop) (H : Heap) : Prop :=
 lp (α := Int) 0 H (fun x1 J2 H3 =>
 ift ((decide ((x1 : Int) < (List.length p_a : Int))) && (decide ((x1 : Int) < (List.length p_b : Int))))
 (ixs p_a x1 fun c6 =>
 ixs p_b x1 fun c9 =>
 ift (((c6.toNat : Int) : Int) != (c9.toNat : Int))
 (dr H3 fun Hs13 =>
 ixs p_a x1 fun c15 =>
 ixs p_b x1 fun c18 =>
 c_ref02_ints C (w .i64 (c15.toNat : Int)) (w .i64 (c18.toNat : Int)) (fun r22 H23 =>
 Heap.le Hs13 H23 ∧
 K r22 H23) H3)
 (J2 (w .i64 (x1 + 1)) H3))
 (c_ref02_ints C (List.length p_a : Int) (List.length p_b : Int) (fun r24 H25 =>
 K r24 H25) H3))
theorem ad_ref02_texts (C : Ctx) (p_a : Str) (p_b : Str) (K : Int → Heap → Prop) (H : Heap) (h : sh_ref02_texts C p_a p_b K H) : c_ref02_texts C p_a p_b K H := by
 refine Spec.enter Tryz.func105 rfl Tryz.ntmps105 rfl (GC.sub [(0, sv p_a), (1, sv p_b)] ⟨rfl, rfl, trivial⟩ (Zo (Za (GL.nil (GC.seq (Zo (Za (GL.nil (GC.block (GC.loop (α := Int) h (fun x1 => [(5, .int .i64 x1), (0, sv p_a), (1, sv p_b)]) ⟨rfl, rfl, rfl, trivial⟩ ?_))))))))))
 intro x1 H3 J2 h
 refine GC.seq (Zo (Zm (Zm (Zr (Zi (.bool (decide ((x1 : Int) < (List.length p_a : Int)))) (Zm ?_))))))
 refine GL.cut0 5 [(15, .bool ((decide ((x1 : Int) < (List.length p_a : Int))) && (decide ((x1 : Int) < (List.length p_b : Int))))), (0, sv p_a), (1, sv p_b), (5, .int .i64 x1)] ?_ ?_
 rcases Zb (decide ((x1 : Int) < (List.length p_a : Int))) with hc4 | hc4
 refine Zu hc4 (OV.move rfl) (Zu hc4 (OV.move rfl) (Zu hc4 (OV.lenStr rfl rfl) (Zu hc4 (OV.ibin (v := .bool (decide ((x1 : Int) < (List.length p_b : Int)))) rfl rfl rfl) (Zt hc4 ?_))))
 exact GL.jump0 (fun _ _ h => h) () rfl ⟨(by rw [hc4]; rfl), rfl, rfl, rfl, trivial⟩
 refine Zk hc4 (Zk hc4 (Zk hc4 (Zk hc4 (Zn hc4 ?_))))
 exact GL.jump0 (fun _ _ h => h) () rfl ⟨(by rw [hc4]; rfl), rfl, rfl, rfl, trivial⟩
 refine GL.nil ?_
 refine Zd (fun hc5 => ?_) fun hc5 => ?_
 replace h := h.1 hc5
 refine GC.skip (GC.seq (GC.block (GC.seq (GC.draw (by kernel_rfl) (by kernel_rfl) (GQ.val trivial rfl (OV.move (v := sv p_a) rfl) (GQ.val trivial rfl (OV.move (v := .int .i64 x1) rfl) ?_))))))
 obtain ⟨c6, ha7, hb8, h⟩ := h
 refine GQ.val trivial rfl (OV.indexStr (s := p_a) rfl rfl rfl ha7 hb8) (GQ.val trivial rfl (OV.move (v := sv p_b) rfl) (GQ.val trivial rfl (OV.move (v := .int .i64 x1) rfl) ?_))
 obtain ⟨c9, ha10, hb11, h⟩ := h
 refine GQ.val trivial rfl (OV.indexStr (s := p_b) rfl rfl rfl ha10 hb11) (GQ.val trivial rfl (OV.ibin (v := .bool (((c6.toNat : Int) : Int) != (c9.toNat : Int))) rfl rfl rfl) (GQ.nil (GL.nil ?_)))
 refine Zd (fun hc12 => ?_) fun hc12 => ?_
 replace h := h.1 hc12
 refine GC.seq ?_
 obtain ⟨Hs13, hle14, h⟩ := h
 refine GC.any (Hs := Hs13) (by kernel_rfl) hle14 (Zp 0 rfl (OV.move rfl) (Zp 1 rfl (OV.move rfl) ?_))
 obtain ⟨c15, ha16, hb17, h⟩ := h
 refine Zp 2 rfl (OV.indexStr rfl rfl rfl ha16 hb17) (Zp 3 rfl (OV.convInt rfl rfl rfl) (Zp 4 rfl (OV.move rfl) (Zp 5 rfl (OV.move rfl) ?_)))
 obtain ⟨c18, ha19, hb20, h⟩ := h
 refine Zp 6 rfl (OV.indexStr rfl rfl rfl ha19 hb20) (Zp 7 rfl (OV.convInt rfl rfl rfl) (GA.eff 8 rfl (by kernel_rfl) (Zc h ok_ref02_ints ?_)))
 rintro _ H23 ⟨r22, rfl, h⟩
 obtain ⟨hle21, h⟩ := h
 refine GA.back hle21 (Zp 9 rfl (OV.assign rfl) (GA.done (by kernel_rfl) (GL.nil ?_)))
 exact GC.ret (fun _ _ hf hs => post_tmp1 rfl rfl hf hs ⟨r22, rfl, h⟩)
 replace h := h.2 hc12
 refine GC.skip_to (fun _ _ h => h) (GC.region (Zm (Zi (.int .i64 (w .i64 (x1 + 1))) (Za ?_))))
 exact GL.jump (fun _ _ h => h) (w .i64 (x1 + 1)) h ⟨rfl, rfl, rfl, trivial⟩
 replace h := h.2 hc5
 refine GC.exit_to (fun _ _ h => h) (Zo (Zm (Zr (Zm (Zr (Zc h ok_ref02_ints ?_))))))
 rintro _ H25 ⟨r24, rfl, h⟩
 refine Za (GL.nil ?_)
 exact GC.ret (fun _ _ hf hs => post_tmp1 rfl rfl hf hs ⟨r24, rfl, h⟩)
def sh_internal_stringslite_HasPrefix (C : Ctx) (p_s : Str) (p_prefix : Str) (K : Bool → Heap → Prop) (H : Heap) : Prop :=
 jn (α := Bool) (fun b1 H11 =>
 K b1 H11)
 (fun J2 => ift (decide (((List.length p_s : Int) : Int) ≥ (List.length p_prefix : Int)))
 (slS p_s 0 (List.length p_prefix : Int) fun t5 =>
 J2 (t5 == p_prefix) H)
 (J2 false H))
theorem ad_internal_stringslite_HasPrefix (C : Ctx) (p_s : Str) (p_prefix : Str) (K : Bool → Heap → Prop) (H : Heap) (h : sh_internal_stringslite_HasPrefix C p_s p_prefix K H) : c_internal_stringslite_HasPrefix C p_s p_prefix K H := by
 refine Spec.enter Tryz.func106 rfl Tryz.ntmps106 rfl (GC.sub [(0, sv p_s), (1, sv p_prefix)] ⟨rfl, rfl, trivial⟩ (Zo (Za (GL.nil (Zo (Zm (Zr (Zm (Zr (Zi (.bool (decide (((List.length p_s : Int) : Int) ≥ (List.length p_prefix : Int)))) (Zm ?_)))))))))))
 obtain ⟨J2, h, hR3⟩ := h
 refine GL.cut (α := Bool) 7 J2 (fun b1 => [(17, .bool b1)]) ?_ ?_
 rcases Zb (decide (((List.length p_s : Int) : Int) ≥ (List.length p_prefix : Int))) with hc4 | hc4
 replace h := h.1 hc4
 refine Zu hc4 (OV.move rfl) (Zu hc4 (OV.move rfl) (Zu hc4 (OV.lenStr rfl rfl) ?_))
 obtain ⟨h6, h7, h8, t5, h9, h⟩ := h
 refine Zu hc4 (OV.sliceStr (s := p_s) h6 h7 h8 h9 rfl rfl rfl rfl rfl rfl) (Zu hc4 (OV.move rfl) (Zu hc4 (OV.sbin (a := t5) (b := p_prefix) (v := .bool (t5 == p_prefix)) rfl rfl rfl) (Zt hc4 ?_)))
 exact GL.jump (fun _ _ h => h) (t5 == p_prefix) h ⟨rfl, trivial⟩
 replace h := h.2 hc4
 refine Zk hc4 (Zk hc4 (Zk hc4 (Zk hc4 (Zk hc4 (Zk hc4 (Zn hc4 ?_))))))
 exact GL.jump (fun _ _ h => h) false h ⟨rfl, trivial⟩
 intro b1 H11 h
 replace h := hR3 b1 H11 h
 refine Za (GL.nil ?_)
 exact GC.ret (fun _ _ hf hs => post_tmp1 rfl rfl hf hs ⟨b1, rfl, h⟩)
def sh_cmp_isNaN_int (C : Ctx) (p_x : Int) (K : Bool → Heap → Prop) (H : Heap) : Prop :=
 K ((p_x : Int) != p_x) H
theorem ad_cmp_isNaN_int (C : Ctx) (p_x : Int) (K : Bool → Heap → Prop) (H : Heap) (h : sh_cmp_isNaN_int C p_x K H) : c_cmp_isNaN_int C p_x K H := by
 refine Spec.enter Tryz.func107 rfl Tryz.ntmps107 rfl (GC.sub [(0, .int .i64 p_x)] ⟨rfl, trivial⟩ (Zo (Za (GL.nil (Zo (Zm (Zm (Zi (.bool ((p_x : Int) != p_x)) (Za (GL.nil ?_))))))))))
 exact GC.ret (fun _ _ hf hs => post_tmp1 rfl rfl hf hs ⟨((p_x : Int) != p_x), rfl, h⟩)
def sh_strings_asciiSet_contains (C : Ctx) (p_as : Option (Nat × Nat)) (p_c : Int) (K : Bool → Heap → Prop) (H : Heap) : Prop :=
 nck p_as fun p1 =>
 ixr p1 256 p_c <|
 ldB H (p1.1, p1.2 + (p_c : Int).toNat * 1) fun x5 =>
 K x5 H
theorem ad_strings_asciiSet_contains (C : Ctx) (p_as : Option (Nat × Nat)) (p_c : Int) (K : Bool → Heap → Prop) (H : Heap) (h : sh_strings_asciiSet_contains C p_as p_c K H) : c_strings_asciiSet_contains C p_as p_c K H := by
 refine Spec.enter Tryz.func108 rfl Tryz.ntmps108 rfl (GC.sub [(0, pv p_as), (1, .int .u8 p_c)] ⟨rfl, rfl, trivial⟩ (Zo (Za (GL.nil (Zo (Zm (Zm ?_)))))))
 obtain ⟨p1, hp2, h⟩ := h
 refine Zv (OV.nilCheck (q := p_as) rfl hp2) ?_
 obtain ⟨ha3, hb4, h⟩ := h
 refine Zv (OV.indexAddrA (p := p1) rfl rfl rfl rfl ha3 hb4) ?_
 obtain ⟨x5, hr6, h⟩ := h
 refine Zl hr6 (Za (GL.nil ?_))
 exact GC.ret (fun _ _ hf hs => post_tmp1 rfl rfl hf hs ⟨x5, rfl, h⟩)
def sh_internal_stringslite_IndexByte (C : Ctx) (p_s : Str) (p_c : Int) (K : Int → Heap → Prop) (H : Heap) : Prop :=
 K (idxB p_s p_c) H
theorem ad_internal_stringslite_IndexByte (C : Ctx) (p_s : Str) (p_c : Int) (K : Int → Heap → Prop) (H : Heap) (h : sh_internal_stringslite_IndexByte C p_s p_c K H) : c_internal_stringslite_IndexByte C p_s p_c K H := by
 refine Spec.enter Tryz.func112 rfl Tryz.ntmps112 rfl (GC.sub [(0, sv p_s), (1, .int .u8 p_c)] ⟨rfl, rfl, trivial⟩ (Zo (Za (GL.nil (Zo (Zm (Zm (Zv (OV.ext ext_internal_bytealg_IndexByteString (vs := [sv p_s, .int .u8 p_c]) (v := .int .i64 (idxB p_s p_c)) rfl (fun w => run_idxB _ _ w)) (Za (GL.nil ?_))))))))))
 exact GC.ret (fun _ _ hf hs => post_tmp1 rfl rfl hf hs ⟨(idxB p_s p_c), rfl, h⟩)
def sh_slices_swapRangeCmpFunc_zset_Entry (C : Ctx) (p_data : Sl) (p_a : Int) (p_b : Int) (p_n : Int) (p_cmp : Value) (K : Heap → Prop) (H : Heap) : Prop :=
 lp (α := Int) 0 H (fun x1 J2 H3 =>
 ift (decide ((x1 : Int) < p_n))
 (jn (α := Unit) (fun x6 H7 =>
 J2 (w .i64 (x1 + 1)) H7)
 (fun J5 => dr H3 fun Hs9 =>
 ixa p_data (w .i64 (p_b + x1)) fun p11 =>
 ixa p_data (w .i64 (p_a + x1)) fun p16 =>
 (ldT H3 T_zset_Entry.c (p11.1, p11.2 + (w .i64 (p_b + x1) : Int).toNat * 2) fun x22 =>
 Heap.le Hs9 H3 ∧
 ldT H3 T_zset_Entry.c (p16.1, p16.2 + (w .i64 (p_a + x1) : Int).toNat * 2) fun x25 =>
 Heap.le Hs9 H3 ∧
 ixa p_data (w .i64 (p_a + x1)) fun p27 =>
 stT (p27.1, p27.2 + (w .i64 (p_a + x1) : Int).toNat * 2) (T_zset_Entry.c x22) (fun H33 =>
 Heap.le Hs9 H33 ∧
 ixa p_data (w .i64 (p_b + x1)) fun p34 =>
 stT (p34.1, p34.2 + (w .i64 (p_b + x1) : Int).toNat * 2) (T_zset_Entry.c x25) (fun H39 =>
 J5 () H39) H33) H3) ∧
 (ldT H3 T_zset_Entry.c (p16.1, p16.2 + (w .i64 (p_a + x1) : Int).toNat * 2) fun x41 =>
 Heap.le Hs9 H3 ∧
 ldT H3 T_zset_Entry.c (p11.1, p11.2 + (w .i64 (p_b + x1) : Int).toNat * 2) fun x44 =>
 Heap.le Hs9 H3 ∧
 ixa p_data (w .i64 (p_a + x1)) fun p46 =>
 stT (p46.1, p46.2 + (w .i64 (p_a + x1) : Int).toNat * 2) (T_zset_Entry.c x44) (fun H52 =>
 Heap.le Hs9 H52 ∧
 ixa p_data (w .i64 (p_b + x1)) fun p53 =>
 stT (p53.1, p53.2 + (w .i64 (p_b + x1) : Int).toNat * 2) (T_zset_Entry.c x41) (fun H58 =>
 J5 () H58) H52) H3)))
 (K H3))
theorem ad_slices_swapRangeCmpFunc_zset_Entry (C : Ctx) (p_data : Sl) (p_a : Int) (p_b : Int) (p_n : Int) (p_cmp : Value) (K : Heap → Prop) (H : Heap) (h : sh_slices_swapRangeCmpFunc_zset_Entry C p_data p_a p_b p_n p_cmp K H) : c_slices_swapRangeCmpFunc_zset_Entry C p_data p_a p_b p_n p_cmp K H := by
 refine Spec.enter Tryz.func117 rfl Tryz.ntmps117 rfl (GC.sub [(0, slv p_data), (1, .int .i64 p_a), (2, .int .i64 p_b), (3, .int .i64 p_n), (4, p_cmp)] ⟨rfl, rfl, rfl, rfl, rfl, trivial⟩ (Zo (Za (GL.nil (GC.block (GC.loop (α := Int) h (fun x1 => [(10, .int .i64 x1), (0, slv p_data), (1, .int .i64 p_a), (2, .int .i64 p_b), (3, .int .i64 p_n)]) ⟨rfl, rfl, rfl, rfl, rfl, trivial⟩ ?_))))))
 intro x1 H3 J2 h
 refine GC.seq (Zo (Zm (Zm (Zi (.bool (decide ((x1 : Int) < p_n))) (GL.nil ?_)))))
 refine Zd (fun hc4 => ?_) fun hc4 => ?_
 replace h := h.1 hc4
 refine GC.skip (GC.seq (GC.block ?_))
 obtain ⟨J5, h, hR8⟩ := h
 refine GC.meet (α := Unit) J5 (fun _ => [(0, slv p_data), (1, .int .i64 p_a), (2, .int .i64 p_b), (3, .int .i64 p_n), (10, .int .i64 x1)]) ?_ ?_
 obtain ⟨Hs9, hle10, h⟩ := h
 refine GC.tail (Hs := Hs9) 23 (by kernel_rfl) hle10 (by kernel_rfl) (Zy 0 rfl (OV.move rfl) (Zy 1 rfl (OV.move rfl) (Zy 2 rfl (OV.move rfl) (Zy 3 rfl (OV.ibin (v := .int .i64 (w .i64 (p_a + x1))) rfl rfl rfl) (Zy 4 rfl (OV.move rfl) (Zy 5 rfl (OV.move rfl) (Zy 6 rfl (OV.move rfl) (Zy 7 rfl (OV.ibin (v := .int .i64 (w .i64 (p_b + x1))) rfl rfl rfl) (Zy 8 rfl (OV.move rfl) (Zy 9 rfl (OV.move rfl) (Zy 10 rfl (OV.move rfl) ?_)))))))))))
 refine Zy 11 rfl (OV.ibin (v := .int .i64 (w .i64 (p_b + x1))) rfl rfl rfl) ?_
 obtain ⟨p11, ha12, hb13, hc14, hd15, h⟩ := h
 refine Zy 12 rfl (OV.indexAddr rfl rfl rfl rfl ha12 hb13 hc14 hd15) (Zy 14 rfl (OV.move rfl) (Zy 15 rfl (OV.move rfl) (Zy 16 rfl (OV.move rfl) (Zy 17 rfl (OV.ibin (v := .int .i64 (w .i64 (p_a + x1))) rfl rfl rfl) ?_))))
 obtain ⟨p16, ha17, hb18, hc19, hd20, h⟩ := h
 refine Zy 18 rfl (OV.indexAddr rfl rfl rfl rfl ha17 hb18 hc19 hd20) ?_
 refine GT.effs [13, 19] (by kernel_rfl) (by simp) (List.forall_mem_cons.2 ⟨⟨_, rfl, rfl, ?_⟩, List.forall_mem_cons.2 ⟨⟨_, rfl, rfl, ?_⟩, fun _ h => by cases h⟩⟩)
 replace h := h.1
 obtain ⟨x22, hr23, h⟩ := h
 refine Zv (OV.loadT rfl rfl rfl hr23) ?_
 obtain ⟨hle21, h⟩ := h
 refine GT.back hle21 (GT.eff 19 rfl (by kernel_rfl) rfl ?_)
 obtain ⟨x25, hr26, h⟩ := h
 refine Zv (OV.loadT rfl rfl rfl hr26) ?_
 obtain ⟨hle24, h⟩ := h
 refine GT.back hle24 ?_
 obtain ⟨p27, ha28, hb29, hc30, hd31, h⟩ := h
 refine Zy 20 rfl (OV.indexAddr rfl rfl rfl rfl ha28 hb29 hc30 hd31) (GT.eff 21 rfl (by kernel_rfl) rfl (GL.storeT (p := (p27.1, p27.2 + (w .i64 (p_a + x1) : Int).toNat * 2)) (vs := T_zset_Entry.c x22) h trivial rfl rfl rfl rfl ?_))
 intro H33 h
 obtain ⟨hle32, h⟩ := h
 refine GT.back hle32 ?_
 obtain ⟨p34, ha35, hb36, hc37, hd38, h⟩ := h
 refine Zy 22 rfl (OV.indexAddr rfl rfl rfl rfl ha35 hb36 hc37 hd38) (GT.done (by kernel_rfl) ?_)
 show GL _ _ _ _ _ [_] _ _
 refine GL.storeT (p := (p34.1, p34.2 + (w .i64 (p_b + x1) : Int).toNat * 2)) (vs := T_zset_Entry.c x25) h trivial rfl rfl rfl rfl ?_
 intro H39 h
 exact GL.jump (fun _ _ h => h) () h ⟨rfl, rfl, rfl, rfl, rfl, trivial⟩
 replace h := h.2
 obtain ⟨x41, hr42, h⟩ := h
 refine Zv (OV.loadT rfl rfl rfl hr42) ?_
 obtain ⟨hle40, h⟩ := h
 refine GT.back hle40 (GT.eff 13 rfl (by kernel_rfl) rfl ?_)
 obtain ⟨x44, hr45, h⟩ := h
 refine Zv (OV.loadT rfl rfl rfl hr45) ?_
 obtain ⟨hle43, h⟩ := h
 refine GT.back hle43 ?_
 obtain ⟨p46, ha47, hb48, hc49, hd50, h⟩ := h
 refine Zy 20 rfl (OV.indexAddr rfl rfl rfl rfl ha47 hb48 hc49 hd50) (GT.eff 21 rfl (by kernel_rfl) rfl (GL.storeT (p := (p46.1, p46.2 + (w .i64 (p_a + x1) : Int).toNat * 2)) (vs := T_zset_Entry.c x44) h trivial rfl rfl rfl rfl ?_))
 intro H52 h
 obtain ⟨hle51, h⟩ := h
 refine GT.back hle51 ?_
 obtain ⟨p53, ha54, hb55, hc56, hd57, h⟩ := h
 refine Zy 22 rfl (OV.indexAddr rfl rfl rfl rfl ha54 hb55 hc56 hd57) (GT.done (by kernel_rfl) ?_)
 show GL _ _ _ _ _ [_] _ _
 refine GL.storeT (p := (p53.1, p53.2 + (w .i64 (p_b + x1) : Int).toNat * 2)) (vs := T_zset_Entry.c x41) h trivial rfl rfl rfl rfl ?_
 intro H58 h
 exact GL.jump (fun _ _ h => h) () h ⟨rfl, rfl, rfl, rfl, rfl, trivial⟩
 intro x6 H7 h
 replace h := hR8 x6 H7 h
 refine GL.nil_to (fun _ _ h => h) (GC.region (Zm (Zi (.int .i64 (w .i64 (x1 + 1))) (Za ?_))))
 exact GL.jump (fun _ _ h => h) (w .i64 (x1 + 1)) h ⟨rfl, rfl, rfl, rfl, rfl, trivial⟩
 replace h := h.2 hc4
 exact GC.exit_ends (fun _ _ hf hs => post_tmp0 rfl hf hs ⟨rfl, h⟩)
def sh_ref02_Number (C : Ctx) (p_s : Str) (K : Bool → Heap → Prop) (H : Heap) : Prop :=
 jn (α := Str) (fun x2 H3 =>
 jn (α := Bool) (fun b24 H36 =>
 ift b24
 (K false H36)
 (lp (α := Int) 0 H36 (fun x38 J39 H40 =>
 ift (decide ((x38 : Int) < (List.length x2 : Int)))
 (ixs x2 x38 fun c42 =>
 jn (α := Bool) (fun b45 H52 =>
 ift b45
 (K false H52)
 (J39 (w .i64 (x38 + 1)) H52))
 (fun J46 => ift (decide (((c42.toNat : Int) : Int) < 48))
 (J46 true H40)
 (ixs x2 x38 fun c49 =>
 J46 (decide (((c49.toNat : Int) : Int) > 57)) H40)))
 (K true H40))))
 (fun J25 => ift (x2 == ([] : Str))
 (J25 true H3)
 (jn (α := Bool) (fun b28 H35 =>
 J25 b28 H35)
 (fun J29 => ift (decide (((List.length x2 : Int) : Int) > 1))
 (ixs x2 0 fun c32 =>
 J29 (((c32.toNat : Int) : Int) == 48) H3)
 (J29 false H3)))))
 (fun J1 => jn (α := Bool) (fun b5 H12 =>
 ift b5
 (slS p_s 1 (List.length p_s : Int) fun t14 =>
 ixs t14 0 fun c20 =>
 ift (((c20.toNat : Int) : Int) == 48)
 (K false H12)
 (J1 t14 H12))
 (J1 p_s H12))
 (fun J6 => ift (decide (((List.length p_s : Int) : Int) > 1))
 (ixs p_s 0 fun c9 =>
 J6 (((c9.toNat : Int) : Int) == 45) H)
 (J6 false H)))
theorem ad_ref02_Number (C : Ctx) (p_s : Str) (K : Bool → Heap → Prop) (H : Heap) (h : sh_ref02_Number C p_s K H) : c_ref02_Number C p_s K H := by
 refine Spec.enter Tryz.func118 rfl Tryz.ntmps118 rfl (GC.sub [(0, sv p_s)] ⟨rfl, trivial⟩ (Zo (Za (GL.nil ?_))))
 obtain ⟨J1, h, hR4⟩ := h
 refine GC.join (α := Str) J1 (fun x2 => [(0, sv x2)]) ?_ ?_
 refine Zo (Zm (Zr (Zi (.bool (decide (((List.length p_s : Int) : Int) > 1))) (Zm ?_))))
 obtain ⟨J6, h, hR7⟩ := h
 refine GL.cut (α := Bool) 4 J6 (fun b5 => [(11, .bool b5), (0, sv p_s)]) ?_ ?_
 rcases Zb (decide (((List.length p_s : Int) : Int) > 1)) with hc8 | hc8
 replace h := h.1 hc8
 refine Zu hc8 (OV.move rfl) ?_
 obtain ⟨c9, ha10, hb11, h⟩ := h
 refine Zu hc8 (OV.indexStr rfl rfl rfl ha10 hb11) (Zu hc8 (OV.ibin (v := .bool (((c9.toNat : Int) : Int) == 45)) rfl rfl rfl) (Zt hc8 ?_))
 exact GL.jump (fun _ _ h => h) (((c9.toNat : Int) : Int) == 45) h ⟨rfl, rfl, trivial⟩
 replace h := h.2 hc8
 refine Zk hc8 (Zk hc8 (Zk hc8 (Zn hc8 ?_)))
 exact GL.jump (fun _ _ h => h) false h ⟨rfl, rfl, trivial⟩
 intro b5 H12 h
 replace h := hR7 b5 H12 h
 refine GL.nil ?_
 refine Zd (fun hc13 => ?_) fun hc13 => ?_
 replace h := h.1 hc13
 refine Zo (Zm ?_)
 obtain ⟨h15, h16, h17, t14, h18, h⟩ := h
 refine Zv (OV.sliceStr (s := p_s) h15 h16 h17 h18 rfl rfl rfl rfl rfl rfl) (Za (GL.nil (Zo (Zm ?_))))
 obtain ⟨c20, ha21, hb22, h⟩ := h
 refine Zs ha21 hb22 (Zi (.bool (((c20.toNat : Int) : Int) == 48)) (GL.nil ?_))
 refine Zd (fun hc23 => ?_) fun hc23 => ?_
 replace h := h.1 hc23
 refine Zo (Za (GL.nil ?_))
 exact GC.ret (fun _ _ hf hs => post_tmp1 rfl rfl hf hs ⟨false, rfl, h⟩)
 replace h := h.2 hc23
 exact GC.jump (fun _ _ h => h) t14 h ⟨rfl, trivial⟩
 replace h := h.2 hc13
 exact GC.jump (fun _ _ h => h) p_s h ⟨rfl, trivial⟩
 intro x2 H3 h
 replace h := hR4 x2 H3 h
 refine GC.seq (Zo (Zm (Zv (OV.sbin (a := x2) (b := ([] : Str)) (v := .bool (x2 == ([] : Str))) rfl rfl rfl) (Zm ?_))))
 obtain ⟨J25, h, hR26⟩ := h
 refine GL.cut (α := Bool) 9 J25 (fun b24 => [(28, .bool b24), (0, sv x2)]) ?_ ?_
 rcases Zb (x2 == ([] : Str)) with hc27 | hc27
 replace h := h.1 hc27
 refine Zk hc27 (Zk hc27 (Zk hc27 (Zk hc27 (GL.skip ⟨_, rfl, .inr rfl⟩ rfl (GL.skip ⟨_, rfl, .inr rfl⟩ rfl (GL.skip ⟨_, rfl, .inr rfl⟩ rfl (Zk hc27 (Zt hc27 ?_))))))))
 exact GL.jump (fun _ _ h => h) true h ⟨rfl, rfl, trivial⟩
 replace h := h.2 hc27
 refine Zu hc27 (OV.move rfl) (Zu hc27 (OV.lenStr rfl rfl) (Zu hc27 (OV.ibin (v := .bool (decide (((List.length x2 : Int) : Int) > 1))) rfl rfl rfl) (Zu hc27 (OV.move rfl) ?_)))
 obtain ⟨J29, h, hR30⟩ := h
 refine GL.cut (α := Bool) 4 J29 (fun b28 => [(27, .bool b28), (0, sv x2), (19, .bool (x2 == ([] : Str)))]) ?_ ?_
 rcases Zb (decide (((List.length x2 : Int) : Int) > 1)) with hc31 | hc31
 replace h := h.1 hc31
 refine Zu hc31 (OV.move rfl) ?_
 obtain ⟨c32, ha33, hb34, h⟩ := h
 refine Zu hc31 (OV.indexStr rfl rfl rfl ha33 hb34) (Zu hc31 (OV.ibin (v := .bool (((c32.toNat : Int) : Int) == 48)) rfl rfl rfl) (Zu hc27 (OV.pickT rfl hc31 rfl) ?_))
 exact GL.jump (fun _ _ h => h) (((c32.toNat : Int) : Int) == 48) h ⟨rfl, rfl, rfl, trivial⟩
 replace h := h.2 hc31
 refine Zk hc31 (Zk hc31 (Zk hc31 (Zu hc27 (OV.pickF rfl hc31 rfl) ?_)))
 exact GL.jump (fun _ _ h => h) false h ⟨rfl, rfl, rfl, trivial⟩
 intro b28 H35 h
 replace h := hR30 b28 H35 h
 refine Zn hc27 ?_
 exact GL.jump (fun _ _ h => h) b28 h ⟨rfl, rfl, trivial⟩
 intro b24 H36 h
 replace h := hR26 b24 H36 h
 refine GL.nil ?_
 refine Zd (fun hc37 => ?_) fun hc37 => ?_
 replace h := h.1 hc37
 refine Zo (Za (GL.nil ?_))
 exact GC.ret (fun _ _ hf hs => post_tmp1 rfl rfl hf hs ⟨false, rfl, h⟩)
 replace h := h.2 hc37
 refine GC.skip (GC.seq (Zo (Za (GL.nil (GC.block (GC.loop (α := Int) h (fun x38 => [(3, .int .i64 x38), (0, sv x2)]) ⟨rfl, rfl, trivial⟩ ?_))))))
 intro x38 H40 J39 h
 refine GC.seq (Zo (Zm (Zm (Zr (Zi (.bool (decide ((x38 : Int) < (List.length x2 : Int)))) (GL.nil ?_))))))
 refine Zd (fun hc41 => ?_) fun hc41 => ?_
 replace h := h.1 hc41
 refine GC.skip (GC.seq (GC.block (Zo (Zm (Zm ?_)))))
 obtain ⟨c42, ha43, hb44, h⟩ := h
 refine Zs ha43 hb44 (Zi (.bool (decide (((c42.toNat : Int) : Int) < 48))) (Zm ?_))
 obtain ⟨J46, h, hR47⟩ := h
 refine GL.cut (α := Bool) 5 J46 (fun b45 => [(44, .bool b45), (0, sv x2), (3, .int .i64 x38)]) ?_ ?_
 rcases Zb (decide (((c42.toNat : Int) : Int) < 48)) with hc48 | hc48
 replace h := h.1 hc48
 refine Zk hc48 (Zk hc48 (Zk hc48 (Zk hc48 (Zt hc48 ?_))))
 exact GL.jump (fun _ _ h => h) true h ⟨rfl, rfl, rfl, trivial⟩
 replace h := h.2 hc48
 refine Zu hc48 (OV.move rfl) (Zu hc48 (OV.move rfl) ?_)
 obtain ⟨c49, ha50, hb51, h⟩ := h
 refine Zu hc48 (OV.indexStr rfl rfl rfl ha50 hb51) (Zu hc48 (OV.ibin (v := .bool (decide (((c49.toNat : Int) : Int) > 57))) rfl rfl rfl) (Zn hc48 ?_))
 exact GL.jump (fun _ _ h => h) (decide (((c49.toNat : Int) : Int) > 57)) h ⟨rfl, rfl, rfl, trivial⟩
 intro b45 H52 h
 replace h := hR47 b45 H52 h
 refine GL.nil ?_
 refine Zd (fun hc53 => ?_) fun hc53 => ?_
 replace h := h.1 hc53
 refine Zo (Za (GL.nil ?_))
 exact GC.ret (fun _ _ hf hs => post_tmp1 rfl rfl hf hs ⟨false, rfl, h⟩)
 replace h := h.2 hc53
 refine GC.skip_to (fun _ _ h => h) (GC.region (Zm (Zi (.int .i64 (w .i64 (x38 + 1))) (Za ?_))))
 exact GL.jump (fun _ _ h => h) (w .i64 (x38 + 1)) h ⟨rfl, rfl, trivial⟩
 replace h := h.2 hc41
 refine GC.exit_to (fun _ _ h => h) (Zo (Za (GL.nil ?_)))
 exact GC.ret (fun _ _ hf hs => post_tmp1 rfl rfl hf hs ⟨true, rfl, h⟩)
def sh_ref02_Names (C : Ctx) (p_s : Str) (K : Bool → Heap → Prop) (H : Heap) : Prop :=
 ift ((p_s == ([116, 114, 117, 101] : Str)) || (p_s == ([102, 97, 108, 115, 101] : Str)))
 (K false H)
 (lp (α := Int) 0 H (fun x3 J4 H5 =>
 ift (decide ((x3 : Int) < (List.length p_s : Int)))
 (ixs p_s x3 fun c7 =>
 ift (((c7.toNat : Int) : Int) == 46)
 (slS p_s 0 x3 fun t11 =>
 c_ref02_Name C t11 (fun r17 H18 =>
 jn (α := Bool) (fun b19 H31 =>
 K b19 H31)
 (fun J20 => ift r17
 (slS p_s (w .i64 (x3 + 1)) (List.length p_s : Int) fun t23 =>
 c_ref02_Name C t23 (fun r29 H30 =>
 J20 r29 H30) H18)
 (J20 false H18))) H5)
 (J4 (w .i64 (x3 + 1)) H5))
 (c_ref02_Name C p_s (fun r32 H33 =>
 K r32 H33) H5)))
theorem ad_ref02_Names (C : Ctx) (p_s : Str) (K : Bool → Heap → Prop) (H : Heap) (h : sh_ref02_Names C p_s K H) : c_ref02_Names C p_s K H := by
 refine Spec.enter Tryz.func119 rfl Tryz.ntmps119 rfl (GC.sub [(0, sv p_s)] ⟨rfl, trivial⟩ (Zo (Za (GL.nil (GC.seq (Zo (Zm (Zv (OV.sbin (a := p_s) (b := ([116, 114, 117, 101] : Str)) (v := .bool (p_s == ([116, 114, 117, 101] : Str))) rfl rfl rfl) (Zm ?_)))))))))
 refine GL.cut0 3 [(9, .bool ((p_s == ([116, 114, 117, 101] : Str)) || (p_s == ([102, 97, 108, 115, 101] : Str)))), (0, sv p_s)] ?_ ?_
 rcases Zb (p_s == ([116, 114, 117, 101] : Str)) with hc1 | hc1
 refine Zk hc1 (Zk hc1 (Zt hc1 ?_))
 exact GL.jump0 (fun _ _ h => h) () rfl ⟨(by rw [hc1]; rfl), rfl, trivial⟩
 refine Zu hc1 (OV.move rfl) (Zu hc1 (OV.sbin (a := p_s) (b := ([102, 97, 108, 115, 101] : Str)) (v := .bool (p_s == ([102, 97, 108, 115, 101] : Str))) rfl rfl rfl) (Zn hc1 ?_))
 exact GL.jump0 (fun _ _ h => h) () rfl ⟨(by rw [hc1]; rfl), rfl, trivial⟩
 refine GL.nil ?_
 refine Zd (fun hc2 => ?_) fun hc2 => ?_
 replace h := h.1 hc2
 refine Zo (Za (GL.nil ?_))
 exact GC.ret (fun _ _ hf hs => post_tmp1 rfl rfl hf hs ⟨false, rfl, h⟩)
 replace h := h.2 hc2
 refine GC.skip (GC.seq (Zo (Za (GL.nil (GC.block (GC.loop (α := Int) h (fun x3 => [(3, .int .i64 x3), (0, sv p_s)]) ⟨rfl, rfl, trivial⟩ ?_))))))
 intro x3 H5 J4 h
 refine GC.seq (Zo (Zm (Zm (Zr (Zi (.bool (decide ((x3 : Int) < (List.length p_s : Int)))) (GL.nil ?_))))))
 refine Zd (fun hc6 => ?_) fun hc6 => ?_
 replace h := h.1 hc6
 refine GC.skip (GC.seq (GC.block (Zo (Zm (Zm ?_)))))
 obtain ⟨c7, ha8, hb9, h⟩ := h
 refine Zs ha8 hb9 (Zi (.bool (((c7.toNat : Int) : Int) == 46)) (GL.nil ?_))
 refine Zd (fun hc10 => ?_) fun hc10 => ?_
 replace h := h.1 hc10
 refine Zo (Zm (Zm ?_))
 obtain ⟨h12, h13, h14, t11, h15, h⟩ := h
 refine Zv (OV.sliceStr (s := p_s) h12 h13 h14 h15 rfl rfl rfl rfl rfl rfl) (Zc h ok_ref02_Name ?_)
 rintro _ H18 ⟨r17, rfl, h⟩
 refine Zm ?_
 obtain ⟨J20, h, hR21⟩ := h
 refine GL.cut (α := Bool) 6 J20 (fun b19 => [(30, .bool b19)]) ?_ ?_
 rcases Bool.eq_false_or_eq_true r17 with hc22 | hc22
 replace h := h.1 hc22
 refine Zu hc22 (OV.move rfl) (Zu hc22 (OV.move rfl) (Zu hc22 (OV.ibin (v := .int .i64 (w .i64 (x3 + 1))) rfl rfl rfl) ?_))
 obtain ⟨h24, h25, h26, t23, h27, h⟩ := h
 refine Zu hc22 (OV.sliceStr (s := p_s) h24 h25 h26 h27 rfl rfl rfl rfl rfl rfl) (GL.call h ⟨_, _, rfl, rfl, hc22⟩ rfl ok_ref02_Name (vs := [sv t23]) rfl ?_)
 rintro _ H30 ⟨r29, rfl, h⟩
 refine Zt hc22 ?_
 exact GL.jump (fun _ _ h => h) r29 h ⟨rfl, trivial⟩
 replace h := h.2 hc22
 refine Zk hc22 (Zk hc22 (Zk hc22 (Zk hc22 (Zk hc22 (Zn hc22 ?_)))))
 exact GL.jump (fun _ _ h => h) false h ⟨rfl, trivial⟩
 intro b19 H31 h
 replace h := hR21 b19 H31 h
 refine Za (GL.nil ?_)
 exact GC.ret (fun _ _ hf hs => post_tmp1 rfl rfl hf hs ⟨b19, rfl, h⟩)
 replace h := h.2 hc10
 refine GC.skip_to (fun _ _ h => h) (GC.region (Zm (Zi (.int .i64 (w .i64 (x3 + 1))) (Za ?_))))
 exact GL.jump (fun _ _ h => h) (w .i64 (x3 + 1)) h ⟨rfl, rfl, trivial⟩
 replace h := h.2 hc6
 refine GC.exit_to (fun _ _ h => h) (Zo (Zm (Zc h ok_ref02_Name ?_)))
 rintro _ H33 ⟨r32, rfl, h⟩
 refine Za (GL.nil ?_)
 exact GC.ret (fun _ _ hf hs => post_tmp1 rfl rfl hf hs ⟨r32, rfl, h⟩)
def sh_ref02_Digits (C : Ctx) (p_s : Str) (K : Int → Heap → Prop) (H : Heap) : Prop :=
 ixs p_s 0 fun c1 =>
 ift (((c1.toNat : Int) : Int) == 45)
 (K (w .i64 ((List.length p_s : Int) - 1)) H)
 (K (List.length p_s : Int) H)
theorem ad_ref02_Digits (C : Ctx) (p_s : Str) (K : Int → Heap → Prop) (H : Heap) (h : sh_ref02_Digits C p_s K H) : c_ref02_Digits C p_s K H := by
 refine Spec.enter Tryz.func120 rfl Tryz.ntmps120 rfl (GC.sub [(0, sv p_s)] ⟨rfl, trivial⟩ (Zo (Za (GL.nil (GC.seq (Zo (Zm ?_)))))))
 obtain ⟨c1, ha2, hb3, h⟩ := h
 refine Zs ha2 hb3 (Zi (.bool (((c1.toNat : Int) : Int) == 45)) (GL.nil ?_))
 refine Zd (fun hc4 => ?_) fun hc4 => ?_
 replace h := h.1 hc4
 refine Zo (Zm (Zr (Zi (.int .i64 (w .i64 ((List.length p_s : Int) - 1))) (Za (GL.nil ?_)))))
 exact GC.ret (fun _ _ hf hs => post_tmp1 rfl rfl hf hs ⟨(w .i64 ((List.length p_s : Int) - 1)), rfl, h⟩)
 replace h := h.2 hc4
 refine GC.skip (Zo (Zm (Zr (Za (GL.nil ?_)))))
 exact GC.ret (fun _ _ hf hs => post_tmp1 rfl rfl hf hs ⟨(List.length p_s : Int), rfl, h⟩)
def sh_ref02_Name (C : Ctx) (p_s : Str) (K : Bool → Heap → Prop) (H : Heap) : Prop :=
 jn (α := Bool) (fun b2 H11 =>
 ift b2
 (K false H11)
 (lp (α := Int) 0 H11 (fun x13 J14 H15 =>
 ift (decide ((x13 : Int) < (List.length p_s : Int)))
 (ixs p_s x13 fun c17 =>
 c_ref02_letter C (c17.toNat : Int) (fun r20 H21 =>
 ift ((((!r20) && (!((decide (((c17.toNat : Int) : Int) ≥ 65)) && (decide (((c17.toNat : Int) : Int) ≤ 90))))) && (!((decide (((c17.toNat : Int) : Int) ≥ 48)) && (decide (((c17.toNat : Int) : Int) ≤ 57))))) && (((c17.toNat : Int) : Int) != 95))
 (K false H21)
 (J14 (w .i64 (x13 + 1)) H21)) H15)
 (K true H15))))
 (fun J3 => ift ((p_s == ([] : Str)) || (decide (((List.length p_s : Int) : Int) > 32)))
 (J3 true H)
 (ixs p_s 0 fun c6 =>
 c_ref02_letter C (c6.toNat : Int) (fun r9 H10 =>
 J3 (!r9) H10) H))
theorem ad_ref02_Name (C : Ctx) (p_s : Str) (K : Bool → Heap → Prop) (H : Heap) (h : sh_ref02_Name C p_s K H) : c_ref02_Name C p_s K H := by
 refine Spec.enter Tryz.func126 rfl Tryz.ntmps126 rfl (GC.sub [(0, sv p_s)] ⟨rfl, trivial⟩ (Zo (Za (GL.nil (GC.seq (Zo (Zm (Zv (OV.sbin (a := p_s) (b := ([] : Str)) (v := .bool (p_s == ([] : Str))) rfl rfl rfl) (Zm ?_)))))))))
 refine GL.cut0 4 [(11, .bool ((p_s == ([] : Str)) || (decide (((List.length p_s : Int) : Int) > 32)))), (0, sv p_s)] ?_ ?_
 rcases Zb (p_s == ([] : Str)) with hc1 | hc1
 refine Zk hc1 (Zk hc1 (Zk hc1 (Zt hc1 ?_)))
 exact GL.jump0 (fun _ _ h => h) () rfl ⟨(by rw [hc1]; rfl), rfl, trivial⟩
 refine Zu hc1 (OV.move rfl) (Zu hc1 (OV.lenStr rfl rfl) (Zu hc1 (OV.ibin (v := .bool (decide (((List.length p_s : Int) : Int) > 32))) rfl rfl rfl) (Zn hc1 ?_)))
 exact GL.jump0 (fun _ _ h => h) () rfl ⟨(by rw [hc1]; rfl), rfl, trivial⟩
 refine Zm ?_
 obtain ⟨J3, h, hR4⟩ := h
 refine GL.cut (α := Bool) 5 J3 (fun b2 => [(17, .bool b2), (0, sv p_s)]) ?_ ?_
 rcases Zb ((p_s == ([] : Str)) || (decide (((List.length p_s : Int) : Int) > 32))) with hc5 | hc5
 replace h := h.1 hc5
 refine Zk hc5 (Zk hc5 (Zk hc5 (Zk hc5 (Zt hc5 ?_))))
 exact GL.jump (fun _ _ h => h) true h ⟨rfl, rfl, trivial⟩
 replace h := h.2 hc5
 refine Zu hc5 (OV.move rfl) ?_
 obtain ⟨c6, ha7, hb8, h⟩ := h
 refine Zu hc5 (OV.indexStr rfl rfl rfl ha7 hb8) (GL.call h ⟨_, _, rfl, rfl, hc5⟩ rfl ok_ref02_letter (vs := [.int .u8 (c6.toNat : Int)]) rfl ?_)
 rintro _ H10 ⟨r9, rfl, h⟩
 refine Zu hc5 (OV.not rfl) (Zn hc5 ?_)
 exact GL.jump (fun _ _ h => h) (!r9) h ⟨rfl, rfl, trivial⟩
 intro b2 H11 h
 replace h := hR4 b2 H11 h
 refine GL.nil ?_
 refine Zd (fun hc12 => ?_) fun hc12 => ?_
 replace h := h.1 hc12
 refine Zo (Za (GL.nil ?_))
 exact GC.ret (fun _ _ hf hs => post_tmp1 rfl rfl hf hs ⟨false, rfl, h⟩)
 replace h := h.2 hc12
 refine GC.skip (GC.seq (Zo (Za (GL.nil (GC.block (GC.loop (α := Int) h (fun x13 => [(3, .int .i64 x13), (0, sv p_s)]) ⟨rfl, rfl, trivial⟩ ?_))))))
 intro x13 H15 J14 h
 refine GC.seq (Zo (Zm (Zm (Zr (Zi (.bool (decide ((x13 : Int) < (List.length p_s : Int)))) (GL.nil ?_))))))
 refine Zd (fun hc16 => ?_) fun hc16 => ?_
 replace h := h.1 hc16
 refine GC.skip (GC.seq (GC.block (Zo (Zm (Zm ?_)))))
 obtain ⟨c17, ha18, hb19, h⟩ := h
 refine Zs ha18 hb19 (Za (GL.nil (Zo (Zm (Zc h ok_ref02_letter ?_)))))
 rintro _ H21 ⟨r20, rfl, h⟩
 refine Zv (OV.not rfl) (Zm ?_)
 refine GL.cut0 8 [(38, .bool ((!r20) && (!((decide (((c17.toNat : Int) : Int) ≥ 65)) && (decide (((c17.toNat : Int) : Int) ≤ 90)))))), (0, sv p_s), (3, .int .i64 x13), (4, .int .u8 (c17.toNat : Int))] ?_ ?_
 rcases Zb (!r20) with hc22 | hc22
 refine Zu hc22 (OV.move rfl) (Zu hc22 (OV.ibin (v := .bool (decide (((c17.toNat : Int) : Int) ≥ 65))) rfl rfl rfl) (Zu hc22 (OV.move rfl) ?_))
 refine GL.cut0 3 [(36, .bool ((decide (((c17.toNat : Int) : Int) ≥ 65)) && (decide (((c17.toNat : Int) : Int) ≤ 90)))), (0, sv p_s), (3, .int .i64 x13), (4, .int .u8 (c17.toNat : Int)), (30, .bool (!r20))] ?_ ?_
 rcases Zb (decide (((c17.toNat : Int) : Int) ≥ 65)) with hc23 | hc23
 refine Zu hc23 (OV.move rfl) (Zu hc23 (OV.ibin (v := .bool (decide (((c17.toNat : Int) : Int) ≤ 90))) rfl rfl rfl) (Zu hc22 (OV.pickT rfl hc23 rfl) ?_))
 exact GL.jump0 (fun _ _ h => h) () rfl ⟨(by rw [hc23]; rfl), rfl, rfl, rfl, rfl, trivial⟩
 refine Zk hc23 (Zk hc23 (Zu hc22 (OV.pickF rfl hc23 rfl) ?_))
 exact GL.jump0 (fun _ _ h => h) () rfl ⟨(by rw [hc23]; rfl), rfl, rfl, rfl, rfl, trivial⟩
 refine Zu hc22 (OV.not rfl) (Zt hc22 ?_)
 exact GL.jump0 (fun _ _ h => h) () rfl ⟨(by rw [hc22]; rfl), rfl, rfl, rfl, trivial⟩
 refine Zk hc22 (Zk hc22 (Zk hc22 (GL.skip ⟨_, rfl, .inr rfl⟩ rfl (GL.skip ⟨_, rfl, .inr rfl⟩ rfl (Zk hc22 (Zk hc22 (Zn hc22 ?_)))))))
 exact GL.jump0 (fun _ _ h => h) () rfl ⟨(by rw [hc22]; rfl), rfl, rfl, rfl, trivial⟩
 refine Zm ?_
 refine GL.cut0 8 [(47, .bool (((!r20) && (!((decide (((c17.toNat : Int) : Int) ≥ 65)) && (decide (((c17.toNat : Int) : Int) ≤ 90))))) && (!((decide (((c17.toNat : Int) : Int) ≥ 48)) && (decide (((c17.toNat : Int) : Int) ≤ 57)))))), (0, sv p_s), (3, .int .i64 x13), (4, .int .u8 (c17.toNat : Int))] ?_ ?_
 rcases Zb ((!r20) && (!((decide (((c17.toNat : Int) : Int) ≥ 65)) && (decide (((c17.toNat : Int) : Int) ≤ 90))))) with hc24 | hc24
 refine Zu hc24 (OV.move rfl) (Zu hc24 (OV.ibin (v := .bool (decide (((c17.toNat : Int) : Int) ≥ 48))) rfl rfl rfl) (Zu hc24 (OV.move rfl) ?_))
 refine GL.cut0 3 [(45, .bool ((decide (((c17.toNat : Int) : Int) ≥ 48)) && (decide (((c17.toNat : Int) : Int) ≤ 57)))), (0, sv p_s), (3, .int .i64 x13), (4, .int .u8 (c17.toNat : Int)), (39, .bool ((!r20) && (!((decide (((c17.toNat : Int) : Int) ≥ 65)) && (decide (((c17.toNat : Int) : Int) ≤ 90))))))] ?_ ?_
 rcases Zb (decide (((c17.toNat : Int) : Int) ≥ 48)) with hc25 | hc25
 refine Zu hc25 (OV.move rfl) (Zu hc25 (OV.ibin (v := .bool (decide (((c17.toNat : Int) : Int) ≤ 57))) rfl rfl rfl) (Zu hc24 (OV.pickT rfl hc25 rfl) ?_))
 exact GL.jump0 (fun _ _ h => h) () rfl ⟨(by rw [hc25]; rfl), rfl, rfl, rfl, rfl, trivial⟩
 refine Zk hc25 (Zk hc25 (Zu hc24 (OV.pickF rfl hc25 rfl) ?_))
 exact GL.jump0 (fun _ _ h => h) () rfl ⟨(by rw [hc25]; rfl), rfl, rfl, rfl, rfl, trivial⟩
 refine Zu hc24 (OV.not rfl) (Zt hc24 ?_)
 exact GL.jump0 (fun _ _ h => h) () rfl ⟨(by rw [hc24]; rfl), rfl, rfl, rfl, trivial⟩
 refine Zk hc24 (Zk hc24 (Zk hc24 (GL.skip ⟨_, rfl, .inr rfl⟩ rfl (GL.skip ⟨_, rfl, .inr rfl⟩ rfl (Zk hc24 (Zk hc24 (Zn hc24 ?_)))))))
 exact GL.jump0 (fun _ _ h => h) () rfl ⟨(by rw [hc24]; rfl), rfl, rfl, rfl, trivial⟩
 refine Zm ?_
 refine GL.cut0 3 [(51, .bool ((((!r20) && (!((decide (((c17.toNat : Int) : Int) ≥ 65)) && (decide (((c17.toNat : Int) : Int) ≤ 90))))) && (!((decide (((c17.toNat : Int) : Int) ≥ 48)) && (decide (((c17.toNat : Int) : Int) ≤ 57))))) && (((c17.toNat : Int) : Int) != 95))), (0, sv p_s), (3, .int .i64 x13)] ?_ ?_
 rcases Zb (((!r20) && (!((decide (((c17.toNat : Int) : Int) ≥ 65)) && (decide (((c17.toNat : Int) : Int) ≤ 90))))) && (!((decide (((c17.toNat : Int) : Int) ≥ 48)) && (decide (((c17.toNat : Int) : Int) ≤ 57))))) with hc26 | hc26
 refine Zu hc26 (OV.move rfl) (Zu hc26 (OV.ibin (v := .bool (((c17.toNat : Int) : Int) != 95)) rfl rfl rfl) (Zt hc26 ?_))
 exact GL.jump0 (fun _ _ h => h) () rfl ⟨(by rw [hc26]; rfl), rfl, rfl, trivial⟩
 refine Zk hc26 (Zk hc26 (Zn hc26 ?_))
 exact GL.jump0 (fun _ _ h => h) () rfl ⟨(by rw [hc26]; rfl), rfl, rfl, trivial⟩
 refine GL.nil ?_
 refine Zd (fun hc27 => ?_) fun hc27 => ?_
 replace h := h.1 hc27
 refine Zo (Za (GL.nil ?_))
 exact GC.ret (fun _ _ hf hs => post_tmp1 rfl rfl hf hs ⟨false, rfl, h⟩)
 replace h := h.2 hc27
 refine GC.skip_to (fun _ _ h => h) (GC.region (Zm (Zi (.int .i64 (w .i64 (x13 + 1))) (Za ?_))))
 exact GL.jump (fun _ _ h => h) (w .i64 (x13 + 1)) h ⟨rfl, rfl, trivial⟩
 replace h := h.2 hc16
 refine GC.exit_to (fun _ _ h => h) (Zo (Za (GL.nil ?_)))
 exact GC.ret (fun _ _ hf hs => post_tmp1 rfl rfl hf hs ⟨true, rfl, h⟩)
def sh_ref02_letter (C : Ctx) (p_c : Int) (K : Bool → Heap → Prop) (H : Heap) : Prop :=
 K ((decide ((p_c : Int) ≥ 97)) && (decide ((p_c : Int) ≤ 122))) H
theorem ad_ref02_letter (C : Ctx) (p_c : Int) (K : Bool → Heap → Prop) (H : Heap) (h : sh_ref02_letter C p_c K H) : c_ref02_letter C p_c K H := by
 refine Spec.enter Tryz.func129 rfl Tryz.ntmps129 rfl (GC.sub [(0, .int .u8 p_c)] ⟨rfl, trivial⟩ (Zo (Za (GL.nil (Zo (Zm (Zi (.bool (decide ((p_c : Int) ≥ 97))) (Zm ?_))))))))
 refine GL.cut0 3 [(8, .bool ((decide ((p_c : Int) ≥ 97)) && (decide ((p_c : Int) ≤ 122))))] ?_ ?_
 rcases Zb (decide ((p_c : Int) ≥ 97)) with hc1 | hc1
 refine Zu hc1 (OV.move rfl) (Zu hc1 (OV.ibin (v := .bool (decide ((p_c : Int) ≤ 122))) rfl rfl rfl) (Zt hc1 ?_))
 exact GL.jump0 (fun _ _ h => h) () rfl ⟨(by rw [hc1]; rfl), trivial⟩
 refine Zk hc1 (Zk hc1 (Zn hc1 ?_))
 exact GL.jump0 (fun _ _ h => h) () rfl ⟨(by rw [hc1]; rfl), trivial⟩
 refine Za (GL.nil ?_)
 exact GC.ret (fun _ _ hf hs => post_tmp1 rfl rfl hf hs ⟨((decide ((p_c : Int) ≥ 97)) && (decide ((p_c : Int) ≤ 122))), rfl, h⟩)
end Sx
end

noncomputable section
set_option linter.unusedVariables false
set_option linter.unusedSimpArgs false
namespace Sx
open Go
inductive V where
 | mk (k n : Int) (s : Str) (l : List V)
namespace V
def k : V → Int | .mk k _ _ _ => k
def n : V → Int | .mk _ n _ _ => n
def s : V → Str | .mk _ _ s _ => s
def l : V → List V | .mk _ _ _ l => l
end V
mutual
def vsize : V → Nat
 | .mk _ _ _ l => vsizes l + 1
def vsizes : List V → Nat
 | [] => 0
 | v :: l => vsize v + vsizes l
end
theorem vsize_mem : ∀ {l : List V} {v : V}, v ∈ l → vsize v ≤ vsizes l
 | w :: l, v, h => by
  simp only [vsizes]
  rcases List.mem_cons.1 h with rfl | h
  ·omega
  ·have := vsize_mem h; omega
theorem vsize_l {v w : V} (h : w ∈ v.l) : vsize w < vsize v := by
 obtain ⟨k, n, s, l⟩ := v
 have := vsize_mem (show w ∈ l from h)
 simp only [vsize]; omega
/-- by how great a value is -/
theorem V.rec_ {P : V → Prop} (h : ∀ v, (∀ w ∈ v.l, P w) → P v) (v : V) : P v := by
 have : ∀ n v, vsize v ≤ n → P v := by
  intro n
  induction n with
  | zero => intro v hv; obtain ⟨k, n, s, l⟩ := v; simp [vsize] at hv
  | succ n ih => intro v hv; exact h v fun w hw => ih w (by have := vsize_l hw; omega)
 exact this _ v (Nat.le_refl _)
mutual
def dep : V → Nat
 | .mk _ _ _ l => deps l + 1
def deps : List V → Nat
 | [] => 0
 | v :: l => max (dep v) (deps l)
end
theorem dep_eq (v : V) : dep v = deps v.l + 1 := by obtain ⟨k, n, s, l⟩ := v; rfl
theorem deps_append : ∀ (a b : List V), deps (a ++ b) = max (deps a) (deps b)
 | [], b => by simp [deps]
 | v :: a, b => by simp only [List.cons_append, deps, deps_append a b]; omega
theorem deps_take {l : List V} {i : Nat} (h : i < l.length) : deps (l.take (i + 1)) = max (deps (l.take i)) (dep l[i]) := by
 rw [List.take_add_one, List.getElem?_eq_getElem h, Option.toList_some, deps_append]; simp [deps]
theorem deps_le : ∀ {l : List V} {v : V}, v ∈ l → dep v ≤ deps l
 | w :: l, v, h => by
  simp only [deps]
  rcases List.mem_cons.1 h with rfl | h
  ·omega
  ·have := deps_le h; omega
theorem dep_le_size (v : V) : dep v ≤ vsize v := by
 have h : ∀ (l : List V), (∀ w ∈ l, dep w ≤ vsize w) → deps l ≤ vsizes l := by
  intro l
  induction l with
  | nil => intro _; simp [deps]
  | cons v l ih =>
   intro h
   have h1 := h v (List.mem_cons_self ..)
   have h2 := ih fun w hw => h w (List.mem_cons_of_mem _ hw)
   simp only [deps, vsizes]; omega
 refine V.rec_ (P := fun v => dep v ≤ vsize v) (fun v ih => ?_) v
 obtain ⟨k, n, s, l⟩ := v
 have := h l ih
 simp only [dep, vsize]; omega
def lowC (c : UInt8) : Bool := decide (97 ≤ c.toNat) && decide (c.toNat ≤ 122)
def nameC (c : UInt8) : Bool := lowC c || (decide (65 ≤ c.toNat) && decide (c.toNat ≤ 90)) || (decide (48 ≤ c.toNat) && decide (c.toNat ≤ 57)) || decide (c.toNat = 95)
def nameS (s : Str) : Bool := !s.isEmpty && decide (s.length ≤ 32) && lowC (s.headD 0) && s.all nameC
def digC (c : UInt8) : Bool := decide (48 ≤ c.toNat) && decide (c.toNat ≤ 57)
def cutD : Str → Option (Str × Str)
 | [] => none
 | c :: t => if c = 46 then some ([], t) else (cutD t).map fun p => (c :: p.1, p.2)
theorem cutD_at : ∀ (a b : Str), (46 : UInt8) ∉ a → cutD (a ++ 46 :: b) = some (a, b)
 | [], b, _ => by simp [cutD]
 | c :: a, b, h => by
  have h1 : c ≠ 46 := fun e => h (by rw [e]; exact List.mem_cons_self ..)
  simp only [List.cons_append, cutD, if_neg h1, cutD_at a b fun hh => h (List.mem_cons_of_mem _ hh)]; rfl
theorem cutD_no : ∀ (a : Str), (46 : UInt8) ∉ a → cutD a = none
 | [], _ => rfl
 | c :: a, h => by
  have h1 : c ≠ 46 := fun e => h (by rw [e]; exact List.mem_cons_self ..)
  simp only [cutD, if_neg h1, cutD_no a fun hh => h (List.mem_cons_of_mem _ hh)]; rfl
theorem cutD_mem : ∀ (s : Str), (46 : UInt8) ∈ s → ∃ a b, s = a ++ 46 :: b ∧ 46 ∉ a
 | c :: s, h => by
  by_cases hc : c = 46
  ·exact ⟨[], s, by rw [hc]; rfl, by simp⟩
  ·obtain ⟨a, b, h1, h2⟩ := cutD_mem s (by simpa [Ne.symm hc] using h)
   exact ⟨c :: a, b, by rw [h1]; rfl, by simp [h2, Ne.symm hc]⟩
def trueS : Str := [116, 114, 117, 101]
def falseS : Str := [102, 97, 108, 115, 101]
def namesS (s : Str) : Bool := if s = trueS ∨ s = falseS then false else match cutD s with
 | some (a, b) => nameS a && nameS b
 | none => nameS s
def unmin (s : Str) : Str := if s.head? = some 45 then s.tail else s
def numS (s : Str) : Bool := !(unmin s).isEmpty && (unmin s).all digC && !(decide ((unmin s).head? = some 48) && decide (s ≠ [48]))
def digits (s : Str) : Nat := (unmin s).length
def okN (k n : Int) (s : Str) (m : Nat) : Bool :=
 if k = 1 then (n == 0 || n == 1) && s.isEmpty && decide (m = 0)
 else if k = 2 then s.isEmpty && decide (m = 0)
 else if k = 3 then numS s && n == 0 && decide (m = 0)
 else if k = 4 then n == 0 && decide (m = 0)
 else if k = 5 then n == 0 && s.isEmpty && decide (m ≠ 1)
 else if k = 6 then n == 0 && namesS s
 else false
def fitN (k : Int) (s : Str) (m : Nat) : Bool :=
 if k = 3 then decide (digits s ≤ 200)
 else if k = 4 then decide (s.length ≤ 4096)
 else if k = 5 then decide (m ≤ 16)
 else if k = 6 then decide (m ≤ 8)
 else true
mutual
def formV : V → Bool
 | .mk k n s l => okN k n s l.length && formVs l
def formVs : List V → Bool
 | [] => true
 | v :: l => formV v && formVs l
end
mutual
def fitsV : V → Bool
 | .mk k n s l => fitN k s l.length && fitsVs l
def fitsVs : List V → Bool
 | [] => true
 | v :: l => fitsV v && fitsVs l
end
theorem formV_eq (v : V) : formV v = (okN v.k v.n v.s v.l.length && formVs v.l) := by obtain ⟨k, n, s, l⟩ := v; rfl
theorem fitsV_eq (v : V) : fitsV v = (fitN v.k v.s v.l.length && fitsVs v.l) := by obtain ⟨k, n, s, l⟩ := v; rfl
theorem formVs_append : ∀ (a b : List V), formVs (a ++ b) = (formVs a && formVs b)
 | [], b => by simp [formVs]
 | v :: a, b => by simp only [List.cons_append, formVs, formVs_append a b, Bool.and_assoc]
theorem fitsVs_append : ∀ (a b : List V), fitsVs (a ++ b) = (fitsVs a && fitsVs b)
 | [], b => by simp [fitsVs]
 | v :: a, b => by simp only [List.cons_append, fitsVs, fitsVs_append a b, Bool.and_assoc]
theorem formVs_take {l : List V} {i : Nat} (h : i < l.length) : formVs (l.take (i + 1)) = (formVs (l.take i) && formV l[i]) := by
 rw [List.take_add_one, List.getElem?_eq_getElem h, Option.toList_some, formVs_append]; simp [formVs]
theorem fitsVs_take {l : List V} {i : Nat} (h : i < l.length) : fitsVs (l.take (i + 1)) = (fitsVs (l.take i) && fitsV l[i]) := by
 rw [List.take_add_one, List.getElem?_eq_getElem h, Option.toList_some, fitsVs_append]; simp [fitsVs]
theorem formVs_false : ∀ {l : List V} {v : V}, v ∈ l → formV v = false → formVs l = false
 | w :: l, v, h, hv => by
  simp only [formVs]
  rcases List.mem_cons.1 h with rfl | h
  ·rw [hv]; rfl
  ·rw [formVs_false h hv, Bool.and_false]
theorem formVs_mem : ∀ {l : List V} {v : V}, v ∈ l → formVs l = true → formV v = true := fun h hl => by
 cases hv : formV _ with
 | true => rfl
 | false => rw [formVs_false h hv] at hl; cases hl
def checkV (v : V) : Int := if dep v > 64 then 65 else if formV v = false then 4 else if fitsV v = false then 40 else 0
def mayV (v : V) : Bool := decide (checkV v = 0)
theorem mayV_iff (v : V) : mayV v = true ↔ dep v ≤ 64 ∧ formV v = true ∧ fitsV v = true := by
 unfold mayV checkV
 rw [decide_eq_true_eq]
 by_cases h1 : dep v > 64
 ·simp [h1]; omega
 ·rw [if_neg h1]
  cases hf : formV v <;> cases hg : fitsV v <;> simp <;> omega
def sgn (a b : Int) : Int := if a < b then -1 else if b < a then 1 else 0
def vcmpS : Str → Str → Int
 | [], [] => 0
 | [], _ :: _ => -1
 | _ :: _, [] => 1
 | a :: s, b :: t => if a = b then vcmpS s t else sgn a.toNat b.toNat
/-- of whole numbers without their signs -/
def cmpD (a b : Str) : Int := if a.length = b.length then vcmpS a b else sgn a.length b.length
def isMin (s : Str) : Bool := decide (s.head? = some 45)
def cmpB (a b : Str) : Int := if isMin a then (if isMin b then cmpD b.tail a.tail else -1) else if isMin b then 1 else cmpD a b
mutual
def cmpV : V → V → Int
 | .mk k n s l, .mk k' n' s' l' =>
  if k ≠ k' then sgn k k'
  else if k = 3 then cmpB s s'
  else if k = 4 then vcmpS s s'
  else if k = 5 then cmpVs l l'
  else if k = 6 then (if vcmpS s s' ≠ 0 then vcmpS s s' else cmpVs l l')
  else sgn n n'
def cmpVs : List V → List V → Int
 | [], [] => 0
 | [], _ :: _ => -1
 | _ :: _, [] => 1
 | v :: l, w :: m => if cmpV v w ≠ 0 then cmpV v w else cmpVs l m
end
def lastB (a b : Bool) : Int := if a = b then 0 else if a then -1 else 1
def mayR (l : List V) : Bool := l.all mayV
def cmpR (l m : List V) : Int := if mayR l = true ∧ mayR m = true then cmpVs l m else lastB (mayR l) (mayR m)
mutual
def sameV : V → V → Bool
 | .mk k n s l, .mk k' n' s' l' => k == k' && n == n' && decide (s = s') && sameVs l l'
def sameVs : List V → List V → Bool
 | [], [] => true
 | v :: l, w :: m => sameV v w && sameVs l m
 | _, _ => false
end
theorem sameVs_eq (h : ∀ v w : V, sameV v w = true → v = w) : ∀ {l m : List V}, sameVs l m = true → l = m
 | [], [], _ => rfl
 | [], _ :: _, h' => by simp [sameVs] at h'
 | _ :: _, [], h' => by simp [sameVs] at h'
 | v :: l, w :: m, h' => by
  simp only [sameVs, Bool.and_eq_true] at h'
  rw [h v w h'.1, sameVs_eq h h'.2]
theorem sameV_eq {v w : V} (h : sameV v w = true) : v = w := by
 have key : ∀ v : V, ∀ w, sameV v w = true → v = w := by
  refine V.rec_ (P := fun v => ∀ w, sameV v w = true → v = w) fun v ih w h => ?_
  obtain ⟨k, n, s, l⟩ := v
  obtain ⟨k', n', s', l'⟩ := w
  simp only [sameV, Bool.and_eq_true, beq_iff_eq, decide_eq_true_eq] at h
  obtain ⟨⟨⟨rfl, rfl⟩, rfl⟩, h⟩ := h
  have : ∀ (l m : List V), (∀ v ∈ l, ∀ w, sameV v w = true → v = w) → sameVs l m = true → l = m := by
   intro l
   induction l with
   | nil => intro m _ h; cases m with
    | nil => rfl
    | cons _ _ => simp [sameVs] at h
   | cons v l ihl =>
    intro m hh h
    cases m with
    | nil => simp [sameVs] at h
    | cons w m =>
     simp only [sameVs, Bool.and_eq_true] at h
     rw [hh v (List.mem_cons_self ..) w h.1, ihl m (fun v hv => hh v (List.mem_cons_of_mem _ hv)) h.2]
  rw [this l l' ih h]
 exact key v w h
mutual
theorem sameV_refl : ∀ v : V, sameV v v = true
 | .mk k n s l => by simp [sameV, sameVs_refl l]
theorem sameVs_refl : ∀ l : List V, sameVs l l = true
 | [] => rfl
 | v :: l => by simp [sameVs, sameV_refl v, sameVs_refl l]
end
theorem sameVs_iff {l m : List V} : sameVs l m = true ↔ l = m := ⟨sameVs_eq fun _ _ => sameV_eq, fun h => h ▸ sameVs_refl l⟩
end Sx
end

noncomputable section
set_option linter.unusedVariables false
set_option linter.unusedSimpArgs false
set_option maxRecDepth 10000
namespace Sx
open Go Go.Proofs
theorem flat_get {α β : Type} (f : α → List β) (z : Nat) (hz : ∀ x, (f x).length = z) : ∀ (l : List α) (i : Nat) (x : α), l[i]? = some x → ∀ (j : Nat) (v : β), (f x)[j]? = some v → (l.flatMap f)[i * z + j]? = some v
 | [], i, x, h, j, v, hv => by simp at h
 | y :: l, 0, x, h, j, v, hv => by
  simp at h; subst h
  rw [List.flatMap_cons, Nat.zero_mul, Nat.zero_add, List.getElem?_append_left (List.getElem?_eq_some_iff.1 hv).1]; exact hv
 | y :: l, i + 1, x, h, j, v, hv => by
  have := flat_get f z hz l i x (by simpa using h) j v hv
  rw [List.flatMap_cons, List.getElem?_append_right (by rw [hz, Nat.add_mul]; omega), hz]
  rw [show (i + 1) * z + j - z = i * z + j by rw [Nat.add_mul]; omega]; exact this
abbrev TV := T_api_Value
theorem TV.c_len (x : TV) : (T_api_Value.c x).length = 4 := rfl
mutual
def VIs (H : Heap) : V → TV → Prop
 | .mk k n s l, x => x.Kind = k ∧ x.N = n ∧ x.S = s ∧ ∃ xs : List TV, rdsl H x.L (xs.flatMap T_api_Value.c) ∧ x.L.len = xs.length ∧ VsAre H l xs
def VsAre (H : Heap) : List V → List TV → Prop
 | [], [] => True
 | v :: l, x :: xs => VIs H v x ∧ VsAre H l xs
 | [], _ :: _ => False
 | _ :: _, [] => False
end
/-- a row of values -/
def VRow (H : Heap) (t : Sl) (l : List V) : Prop := ∃ xs : List TV, rdsl H t (xs.flatMap T_api_Value.c) ∧ t.len = xs.length ∧ VsAre H l xs
theorem VIs_iff {H : Heap} {v : V} {x : TV} : VIs H v x ↔ x.Kind = v.k ∧ x.N = v.n ∧ x.S = v.s ∧ VRow H x.L v.l := by obtain ⟨k, n, s, l⟩ := v; rfl
theorem VsAre.len {H : Heap} : ∀ {l : List V} {xs : List TV}, VsAre H l xs → l.length = xs.length
 | [], [], _ => rfl
 | v :: l, x :: xs, h => by have := VsAre.len h.2; simp [this]
theorem VsAre.get {H : Heap} : ∀ {l : List V} {xs : List TV}, VsAre H l xs → ∀ (i : Nat) (v : V) (x : TV), l[i]? = some v → xs[i]? = some x → VIs H v x
 | [], [], _, i, v, x, h, _ => by simp at h
 | v :: l, x :: xs, h, 0, v', x', h1, h2 => by simp at h1 h2; subst h1; subst h2; exact h.1
 | v :: l, x :: xs, h, i + 1, v', x', h1, h2 => VsAre.get h.2 i v' x' (by simpa using h1) (by simpa using h2)
theorem VsAre.of {H : Heap} : ∀ {l : List V} {xs : List TV}, l.length = xs.length → (∀ (i : Nat) (v : V) (x : TV), l[i]? = some v → xs[i]? = some x → VIs H v x) → VsAre H l xs
 | [], [], _, _ => trivial
 | v :: l, x :: xs, h, hg => ⟨hg 0 v x rfl rfl, VsAre.of (by simpa using h) fun i v' x' h1 h2 => hg (i + 1) v' x' (by simpa using h1) (by simpa using h2)⟩
mutual
theorem VIs.le {A B : Heap} (h : A.le B) : ∀ {v : V} {x : TV}, VIs A v x → VIs B v x
 | .mk k n s l, x, ⟨h1, h2, h3, xs, h4, h5, h6⟩ => ⟨h1, h2, h3, xs, rdsl_le h h4, h5, VsAre.le h h6⟩
theorem VsAre.le {A B : Heap} (h : A.le B) : ∀ {l : List V} {xs : List TV}, VsAre A l xs → VsAre B l xs
 | [], [], _ => trivial
 | v :: l, x :: xs, ⟨h1, h2⟩ => ⟨VIs.le h h1, VsAre.le h h2⟩
end
theorem VRow.le {A B : Heap} {t : Sl} {l : List V} (h : VRow A t l) (hle : A.le B) : VRow B t l := by
 obtain ⟨xs, h1, h2, h3⟩ := h
 exact ⟨xs, rdsl_le hle h1, h2, h3.le hle⟩
theorem VRow.len {H : Heap} {t : Sl} {l : List V} (h : VRow H t l) : t.len = l.length := by
 obtain ⟨xs, h1, h2, h3⟩ := h
 rw [h2, h3.len]
theorem VIs.kind {H : Heap} {v : V} {x : TV} (h : VIs H v x) : x.Kind = v.k := (VIs_iff.1 h).1
theorem VIs.num {H : Heap} {v : V} {x : TV} (h : VIs H v x) : x.N = v.n := (VIs_iff.1 h).2.1
theorem VIs.txt {H : Heap} {v : V} {x : TV} (h : VIs H v x) : x.S = v.s := (VIs_iff.1 h).2.2.1
theorem VIs.row {H : Heap} {v : V} {x : TV} (h : VIs H v x) : VRow H x.L v.l := (VIs_iff.1 h).2.2.2
/-- one of a row's values -/
theorem VRow.ld {A H : Heap} {t : Sl} {l : List V} (h : VRow A t l) (hle : A.le H) {i : Nat} {x : Int} {K : TV → Prop} (hx : x = i) (hi : i < l.length) (k : ∀ y, VIs A l[i] y → K y) : ixa t x fun p => ldT H T_api_Value.c (p.1, p.2 + x.toNat * 4) K := by
 have hl := h.len
 obtain ⟨xs, h1, h2, h3⟩ := h
 have hi2 : i < xs.length := by omega
 have hg := List.getElem?_eq_getElem hi2
 subst hx
 refine ixa_of (rdsl_le hle h1) (by omega) (by omega) (fun e => ?_) fun p _ hp => ⟨xs[i], ?_, k _ (h3.get i _ _ (List.getElem?_eq_getElem hi) hg)⟩
 ·have := flat_get T_api_Value.c 4 TV.c_len xs i _ hg 0 _ rfl
  rw [e] at this; simp at this
 ·refine rds_of fun j v hj => ?_
  have := rds_get hp _ _ (flat_get T_api_Value.c 4 TV.c_len xs i _ hg j v hj)
  rw [show p.2 + (i : Int).toNat * 4 + j = p.2 + (i * 4 + j) by omega]; exact this
mutual
def VB : V → Prop
 | .mk k n s l => (0 ≤ k ∧ k ≤ 255) ∧ (-9223372036854775808 ≤ n ∧ n ≤ 9223372036854775807) ∧ s.length ≤ 140737488355328 ∧ l.length ≤ 140737488355328 ∧ VBs l
def VBs : List V → Prop
 | [] => True
 | v :: l => VB v ∧ VBs l
end
theorem VBs.mem : ∀ {l : List V}, VBs l → ∀ {v}, v ∈ l → VB v
 | w :: l, h, v, hv => by
  rcases List.mem_cons.1 hv with rfl | hv
  ·exact h.1
  ·exact VBs.mem h.2 hv
theorem VBs.of : ∀ {l : List V}, (∀ v ∈ l, VB v) → VBs l
 | [], _ => trivial
 | v :: l, h => ⟨h v (List.mem_cons_self ..), VBs.of fun w hw => h w (List.mem_cons_of_mem _ hw)⟩
theorem VB.k {v : V} (h : VB v) : 0 ≤ v.k ∧ v.k ≤ 255 := by obtain ⟨k, n, s, l⟩ := v; exact h.1
theorem VB.n {v : V} (h : VB v) : -9223372036854775808 ≤ v.n ∧ v.n ≤ 9223372036854775807 := by obtain ⟨k, n, s, l⟩ := v; exact h.2.1
theorem VB.s {v : V} (h : VB v) : v.s.length ≤ 140737488355328 := by obtain ⟨k, n, s, l⟩ := v; exact h.2.2.1
theorem VB.l {v : V} (h : VB v) : v.l.length ≤ 140737488355328 := by obtain ⟨k, n, s, l⟩ := v; exact h.2.2.2.1
theorem VB.ls {v : V} (h : VB v) : VBs v.l := by obtain ⟨k, n, s, l⟩ := v; exact h.2.2.2.2
theorem VB.at {v : V} (h : VB v) {i : Nat} (hi : i < v.l.length) : VB v.l[i] := h.ls.mem (List.getElem_mem hi)
section
variable {B : Heap} {b : Nat} {m : Bool} {x : TV}
theorem rd_box (h : B b = some (m, .row (T_api_Value.c x))) : rd B (b, 0) = some (.int .u8 x.Kind) ∧ rd B (b, 1) = some (.int .i64 x.N) ∧ rd B (b, 2) = some (sv x.S) ∧ rd B (b, 3) = some (slv x.L) :=
 ⟨by rw [rd_row h]; rfl, by rw [rd_row h]; rfl, by rw [rd_row h]; rfl, by rw [rd_row h]; rfl⟩
theorem bxK {K : Int → Prop} (h : B b = some (m, .row (T_api_Value.c x))) (k : K x.Kind) : ldI B .u8 ((b, 0).1, (b, 0).2 + 0) K := ⟨_, (rd_box h).1, k⟩
theorem bxN {K : Int → Prop} (h : B b = some (m, .row (T_api_Value.c x))) (k : K x.N) : ldI B .i64 ((b, 0).1, (b, 0).2 + 1) K := ⟨_, (rd_box h).2.1, k⟩
theorem bxS {K : Str → Prop} (h : B b = some (m, .row (T_api_Value.c x))) (k : K x.S) : ldS B ((b, 0).1, (b, 0).2 + 2) K := ⟨_, (rd_box h).2.2.1, k⟩
theorem bxL {K : Sl → Prop} (h : B b = some (m, .row (T_api_Value.c x))) (k : K x.L) : ldL B ((b, 0).1, (b, 0).2 + 3) K := ⟨_, (rd_box h).2.2.2, k⟩
theorem bxV {K : TV → Prop} (h : B b = some (m, .row (T_api_Value.c x))) (k : K x) : ldT B T_api_Value.c (b, 0) K := ⟨x, rds_row h fun j v hj => by simpa using hj, k⟩
end
section
variable {C : Ctx} {H : Heap}
theorem ref02_Depth_ok {v : V} {x : TV} {H : Heap} {K : Int → Heap → Prop} (hv : VIs H v x) (hB : VB v) (hs : vsize v ≤ 4611686018427387904) (k : K (dep v) H) : c_ref02_Depth C x K H := by
 refine V.rec_ (P := fun v => ∀ {x H} {K : Int → Heap → Prop}, VIs H v x → VB v → vsize v ≤ 4611686018427387904 → K (dep v) H → c_ref02_Depth C x K H) (fun v ih => ?_) v hv hB hs k
 clear hv hB hs k
 intro x H K hv hB hs k
 apply c_ref02_Depth.gh
 apply ad_ref02_Depth
 unfold sh_ref02_Depth
 intro b1 n1
 have hr := hv.row
 have hl := hr.len
 have hbl := hB.l
 have hds := dep_le_size v
 have hde := dep_eq v
 refine ⟨fun y H' => ∃ i : Nat, y = ((deps (v.l.take i) : Int), (i : Int)) ∧ i ≤ v.l.length ∧ (H.put b1 (.row (T_api_Value.c x))).le H', fun y _ => v.l.length - y.2.toNat, ⟨0, by simp [deps], Nat.zero_le _, Heap.le.refl _⟩, ?_⟩
 rintro _ H' ⟨i, rfl, hi, hle⟩
 have hb := hle _ _ (Heap.put_same ..)
 have hle0 := (Heap.le_put n1).trans hle
 refine bxL hb ?_
 rw [hl]
 refine ift.of (fun h => ?_) (fun h => ?_)
 ·have hlt : i < v.l.length := by have := of_decide_eq_true h; dsimp only at this; omega
  have hmem := List.getElem_mem hlt
  have hsz := vsize_l hmem
  have hdl := deps_le hmem
  refine bxL hb ?_
  refine hr.ld hle0 rfl hlt fun y hy => ?_
  refine ih _ hmem (hy.le hle0) (hB.at hlt) (by omega) ?_
  have hdt := deps_take hlt
  dsimp only
  rw [w_i64 (by omega) (by omega)]
  refine ⟨⟨i + 1, ?_, by omega, hle⟩, by first | omega | (dsimp only; omega)⟩
  rw [hdt]
  refine Prod.ext ?_ rfl
  dsimp only
  split <;> omega
 ·have hie : i = v.l.length := by have := of_decide_eq_false h; dsimp only at this; omega
  subst hie
  dsimp only
  rw [List.take_length, w_i64 (by omega) (by omega)]
  refine ⟨H, Gh.le hle0, ?_⟩
  rw [hde] at k; exact k
theorem value_depth_ok {v : V} {x : TV} {H : Heap} {m : Nat} {K : Int → Heap → Prop} (hv : VIs H v x) (hB : VB v) (hm : m ≤ 1000) (k : ∀ r : Nat, r ≤ m + 1 → r ≤ dep v → (r = dep v ∨ m + 1 ≤ r) → K r H) : c_value_depth C x m K H := by
 refine V.rec_ (P := fun v => ∀ {x H} {m : Nat} {K : Int → Heap → Prop}, VIs H v x → VB v → m ≤ 1000 → (∀ r : Nat, r ≤ m + 1 → r ≤ dep v → (r = dep v ∨ m + 1 ≤ r) → K r H) → c_value_depth C x m K H) (fun v ih => ?_) v hv hB hm k
 clear hv hB hm k m
 intro x H m K hv hB hm k
 apply c_value_depth.gh
 apply ad_value_depth
 unfold sh_value_depth
 intro b1 n1
 have hr := hv.row
 have hl := hr.len
 have hbl := hB.l
 have hde := dep_eq v
 have hb1 : (H.put b1 (.row (T_api_Value.c x))) b1 = some (true, .row (T_api_Value.c x)) := Heap.put_same ..
 refine ⟨fun y H' => H.le H' ∧ ∃ r : Nat, y = (r : Int) ∧ r ≤ m ∧ r ≤ deps v.l ∧ (r = deps v.l ∨ m ≤ r), ?_, ?_⟩
 rotate_left
 ·rintro y H' ⟨hle, r, rfl, h0, h1, h2⟩
  rw [w_i64 (by omega) (by omega)]
  have := k (r + 1) (by omega) (by omega) (by omega)
  exact ⟨H, Gh.le hle, by simpa using this⟩
 refine bxL hb1 ?_
 refine ⟨fun y H' => ∃ i r : Nat, y = ((r : Int), (i : Int)) ∧ i ≤ v.l.length ∧ H.le H' ∧ r ≤ m ∧ r ≤ deps (v.l.take i) ∧ (r = deps (v.l.take i) ∨ m ≤ r), fun y _ => v.l.length - y.2.toNat, ⟨0, 0, rfl, Nat.zero_le _, Heap.le_put n1, Nat.zero_le _, Nat.zero_le _, .inl (by simp [deps])⟩, ?_⟩
 rintro _ H' ⟨i, r, rfl, hi, hle, hr0, hr1, hr2⟩
 have hdti : deps (v.l.take i) ≤ deps v.l := by
  have h1 := deps_append (v.l.take i) (v.l.drop i)
  rw [List.take_append_drop] at h1; omega
 dsimp only
 rw [hl]
 refine ift.of (fun h => ?_) (fun h => ?_)
 ·have hlt : i < v.l.length := by have := of_decide_eq_true h; omega
  have hmem := List.getElem_mem hlt
  have hdl := deps_le hmem
  refine hr.ld hle rfl hlt fun y hy => ?_
  intro b20 n20
  refine ⟨_, Heap.put_same .., by simp [T_api_Value.c], ?_⟩
  rw [Heap.put_put]
  have esp : splice (T_api_Value.c T_api_Value.zero) (b20, 0).2 (T_api_Value.c y) = T_api_Value.c y := rfl
  rw [esp]
  have hle2 := hle.trans (Heap.le_put n20 (g := .row (T_api_Value.c y)) (m := true))
  refine ift.of (fun h => ?_) (fun h => ?_)
  ·have hge : m ≤ r := by have := of_decide_eq_true h; omega
   exact ⟨hle2, r, rfl, by omega, by omega, .inr hge⟩
  ·have hltm : r < m := by have := of_decide_eq_false h; omega
   refine bxV (Heap.put_same ..) ?_
   have em : w .i64 ((m : Int) - 1) = ((m - 1 : Nat) : Int) := by rw [w_i64 (by omega) (by omega)]; omega
   rw [em]
   refine ih _ hmem (hy.le hle2) (hB.at hlt) (by omega) fun q hq0 hq1 hq2 => ?_
   have hdt := deps_take hlt
   rw [w_i64 (by omega) (by omega)]
   refine ⟨⟨i + 1, max q r, ?_, by omega, hle2, by omega, by omega, ?_⟩, by first | omega | (dsimp only; omega)⟩
   ·refine Prod.ext ?_ rfl
    dsimp only
    split <;> omega
   ·rw [hdt]; omega
 ·have hie : i = v.l.length := by have := of_decide_eq_false h; omega
  subst hie
  rw [List.take_length] at hr1 hr2
  exact ⟨hle, r, rfl, hr0, hr1, hr2⟩
end
end Sx
end

noncomputable section
set_option linter.unusedVariables false
set_option linter.unusedSimpArgs false
set_option maxRecDepth 10000
namespace Sx
open Go Go.Proofs
theorem u8eq (c : UInt8) (n : Nat) (hn : n < 256) : ((c.toNat : Int) == (n : Int)) = decide (c = UInt8.ofNat n) := by
 rw [Bool.eq_iff_iff]; simp only [decide_eq_true_eq, beq_iff_eq]
 constructor
 ·intro h; exact UInt8.toNat_inj.1 (by rw [UInt8.toNat_ofNat']; omega)
 ·rintro rfl; rw [UInt8.toNat_ofNat']; omega
theorem e48 (c : UInt8) : ((c.toNat : Int) == 48) = decide (c = 48) := u8eq c 48 (by omega)
theorem e45 (c : UInt8) : ((c.toNat : Int) == 45) = decide (c = 45) := u8eq c 45 (by omega)
theorem e46 (c : UInt8) : ((c.toNat : Int) == 46) = decide (c = 46) := u8eq c 46 (by omega)
theorem all_take {α : Type} {p : α → Bool} {s : List α} {i : Nat} (h : i < s.length) : (s.take (i + 1)).all p = ((s.take i).all p && p s[i]) := by
 rw [List.take_add_one, List.getElem?_eq_getElem h, Option.toList_some, List.all_append]; simp
theorem all_no {α : Type} {p : α → Bool} {s : List α} {x : α} (h : x ∈ s) (hp : p x = false) : s.all p = false := by
 rw [List.all_eq_false]; exact ⟨x, h, by simp [hp]⟩
theorem getE {s : Str} {i : Nat} (h : i < s.length) : s[((i : Nat) : Int).toNat]? = some s[i] := by simp [h]
theorem getL {s : Str} (h : 0 < s.length) {x : Int} (hx : x = (s.length : Int) - 1) : s[x.toNat]? = some (s.getLast (List.ne_nil_of_length_pos h)) := by
 subst hx
 have : ((s.length : Int) - 1).toNat = s.length - 1 := by omega
 rw [this, List.getElem?_eq_getElem (by omega), List.getLast_eq_getElem]
section
variable {C : Ctx} {H : Heap}
theorem letter_ok {c : UInt8} {K : Bool → Heap → Prop} (k : K (lowC c) H) : c_ref02_letter C (c.toNat : Int) K H := by
 apply ad_ref02_letter
 unfold sh_ref02_letter
 have : (decide ((c.toNat : Int) ≥ 97) && decide ((c.toNat : Int) ≤ 122)) = lowC c := by
  unfold lowC
  rw [Bool.eq_iff_iff]; simp only [Bool.and_eq_true, decide_eq_true_eq]; omega
 rw [this]; exact k
theorem ref02_Name_ok {s : Str} {K : Bool → Heap → Prop} (hs : s.length ≤ 140737488355328) (k : K (nameS s) H) : c_ref02_Name C s K H := by
 apply ad_ref02_Name
 unfold sh_ref02_Name
 refine ⟨fun b H' => H = H' ∧ b = (s.isEmpty || decide (s.length > 32) || !lowC (s.headD 0)), ?_, ?_⟩
 ·refine ift.of (fun h => ⟨rfl, ?_⟩) (fun h => ?_)
  ·simp only [Bool.or_eq_true, decide_eq_true_eq, beq_iff_eq] at h
   rcases h with rfl | h
   ·rfl
   ·have : decide (s.length > 32) = true := by rw [decide_eq_true_eq]; omega
    rw [this]; simp
  ·cases s with
   | nil => simp at h
   | cons c t =>
    refine ⟨c, by omega, rfl, ?_⟩
    refine letter_ok ⟨rfl, ?_⟩
    simp only [Bool.or_eq_false_iff, decide_eq_false_iff_not] at h
    have : decide ((c :: t).length > 32) = false := by rw [decide_eq_false_iff_not]; omega
    rw [this]; rfl
 rintro b _ ⟨rfl, rfl⟩
 refine ift.of (fun h => ?_) (fun h => ?_)
 ·have : nameS s = false := by
   unfold nameS
   simp only [Bool.or_eq_true, decide_eq_true_eq, Bool.not_eq_true'] at h
   rcases h with (h | h) | h
   ·rw [h]; rfl
   ·have : decide (s.length ≤ 32) = false := by rw [decide_eq_false_iff_not]; omega
    rw [this]; simp
   ·rw [h]; simp
  rw [this] at k; exact k
 have hn : nameS s = s.all nameC := by
  unfold nameS
  simp only [Bool.or_eq_false_iff, decide_eq_false_iff_not, Bool.not_eq_false'] at h
  have : decide (s.length ≤ 32) = true := by rw [decide_eq_true_eq]; omega
  rw [h.1.1, this, h.2]; simp
 refine ⟨fun x H' => ∃ i : Nat, x = (i : Int) ∧ i ≤ s.length ∧ H = H' ∧ (s.take i).all nameC = true, fun x _ => s.length - x.toNat, ⟨0, rfl, Nat.zero_le _, rfl, rfl⟩, ?_⟩
 rintro x _ ⟨i, rfl, hi, rfl, ha⟩
 refine ift.of (fun h => ?_) (fun h => ?_)
 ·have hlt : i < s.length := by have := of_decide_eq_true h; omega
  refine ⟨s[i], by omega, getE hlt, ?_⟩
  dsimp only
  have hm := List.getElem_mem hlt
  have hat := all_take (p := nameC) hlt
  generalize s[i] = c at *
  refine letter_ok ?_
  have e : ((((!lowC c) && (!((decide ((c.toNat : Int) ≥ 65)) && (decide ((c.toNat : Int) ≤ 90))))) && (!((decide ((c.toNat : Int) ≥ 48)) && (decide ((c.toNat : Int) ≤ 57))))) && ((c.toNat : Int) != 95)) = !nameC c := by
   unfold nameC
   have h1 : decide ((c.toNat : Int) ≥ 65) = decide (65 ≤ c.toNat) := by rw [decide_eq_decide]; omega
   have h2 : decide ((c.toNat : Int) ≤ 90) = decide (c.toNat ≤ 90) := by rw [decide_eq_decide]; omega
   have h3 : decide ((c.toNat : Int) ≥ 48) = decide (48 ≤ c.toNat) := by rw [decide_eq_decide]; omega
   have h4 : decide ((c.toNat : Int) ≤ 57) = decide (c.toNat ≤ 57) := by rw [decide_eq_decide]; omega
   have h5 : ((c.toNat : Int) != 95) = !decide (c.toNat = 95) := by
    rw [Bool.eq_iff_iff]; simp only [bne_iff_ne, ne_eq, Bool.not_eq_true', decide_eq_false_iff_not]; omega
   rw [h1, h2, h3, h4, h5]; simp only [Bool.not_or]
  rw [e]
  refine ift.of (fun h => ?_) (fun h => ?_)
  ·rw [hn, all_no hm (by simpa using h)] at k; exact k
  ·rw [w_i64 (by omega) (by omega)]
   refine ⟨⟨i + 1, by omega, by omega, rfl, ?_⟩, by first | omega | (dsimp only; omega)⟩
   rw [hat, ha]; simpa using h
 ·have hie : i = s.length := by have := of_decide_eq_false h; omega
  rw [hie, List.take_length] at ha
  rw [hn, ha] at k; exact k
theorem value_name_ok {s : Str} {K : Bool → Heap → Prop} (hs : s.length ≤ 140737488355328) (k : K (nameS s) H) : c_value_name C s K H := by
 apply ad_value_name
 unfold sh_value_name
 refine ⟨fun b H' => H = H' ∧ b = (s.isEmpty || decide (s.length > 32) || decide ((s.headD 0).toNat < 97)), ?_, ?_⟩
 ·refine ift.of (fun h => ⟨rfl, ?_⟩) (fun h => ?_)
  ·simp only [Bool.or_eq_true, decide_eq_true_eq, beq_iff_eq] at h
   rcases h with rfl | h
   ·rfl
   ·have : decide (s.length > 32) = true := by rw [decide_eq_true_eq]; omega
    rw [this]; simp
  ·cases s with
   | nil => simp at h
   | cons c t =>
    refine ⟨c, by omega, rfl, rfl, ?_⟩
    simp only [Bool.or_eq_false_iff, decide_eq_false_iff_not] at h
    have : decide ((c :: t).length > 32) = false := by rw [decide_eq_false_iff_not]; omega
    rw [this]
    simp only [List.isEmpty_cons, Bool.false_or, List.headD_cons]
    exact (decide_eq_decide.2 (by omega) : decide ((c.toNat : Int) < 97) = decide (c.toNat < 97))
 rintro b _ ⟨rfl, rfl⟩
 refine ⟨fun b H' => H = H' ∧ b = (s.isEmpty || decide (s.length > 32) || !lowC (s.headD 0)), ?_, ?_⟩
 ·refine ift.of (fun h => ⟨rfl, ?_⟩) (fun h => ?_)
  ·simp only [Bool.or_eq_true, decide_eq_true_eq] at h
   rcases h with (h | h) | h
   ·rw [h]; rfl
   ·have : decide (s.length > 32) = true := by rw [decide_eq_true_eq]; omega
    rw [this]; simp
   ·have : lowC (s.headD 0) = false := by unfold lowC; rw [decide_eq_false (by omega)]; rfl
    rw [this]; simp
  ·simp only [Bool.or_eq_false_iff, decide_eq_false_iff_not] at h
   cases s with
   | nil => simp at h
   | cons c t =>
    refine ⟨c, by omega, rfl, rfl, ?_⟩
    have : decide ((c :: t).length > 32) = false := by rw [decide_eq_false_iff_not]; omega
    rw [this]
    simp only [List.isEmpty_cons, Bool.false_or, List.headD_cons] at h ⊢
    unfold lowC
    rw [decide_eq_true (by omega : 97 ≤ c.toNat), Bool.true_and, ← decide_not, decide_eq_decide]; omega
 rintro b _ ⟨rfl, rfl⟩
 refine ift.of (fun h => ?_) (fun h => ?_)
 ·have : nameS s = false := by
   unfold nameS
   simp only [Bool.or_eq_true, decide_eq_true_eq, Bool.not_eq_true'] at h
   rcases h with (h | h) | h
   ·rw [h]; rfl
   ·have : decide (s.length ≤ 32) = false := by rw [decide_eq_false_iff_not]; omega
    rw [this]; simp
   ·rw [h]; simp
  rw [this] at k; exact k
 have hn : nameS s = s.all nameC := by
  unfold nameS
  simp only [Bool.or_eq_false_iff, decide_eq_false_iff_not, Bool.not_eq_false'] at h
  have : decide (s.length ≤ 32) = true := by rw [decide_eq_true_eq]; omega
  rw [h.1.1, this, h.2]; simp
 refine ⟨fun x H' => ∃ i : Nat, x = (i : Int) ∧ i ≤ s.length ∧ H = H' ∧ (s.take i).all nameC = true, fun x _ => s.length - x.toNat, ⟨0, rfl, Nat.zero_le _, rfl, rfl⟩, ?_⟩
 rintro x _ ⟨i, rfl, hi, rfl, ha⟩
 refine ift.of (fun h => ?_) (fun h => ?_)
 ·have hlt : i < s.length := by have := of_decide_eq_true h; omega
  refine ⟨s[i], by omega, getE hlt, ?_⟩
  dsimp only
  have hm := List.getElem_mem hlt
  have hat := all_take (p := nameC) hlt
  generalize s[i] = c at *
  have e : (!(((((decide ((c.toNat : Int) ≥ 97)) && (decide ((c.toNat : Int) ≤ 122))) || ((decide ((c.toNat : Int) ≥ 65)) && (decide ((c.toNat : Int) ≤ 90)))) || ((decide ((c.toNat : Int) ≥ 48)) && (decide ((c.toNat : Int) ≤ 57)))) || ((c.toNat : Int) == 95))) = !nameC c := by
   unfold nameC lowC
   have h0 : decide ((c.toNat : Int) ≥ 97) = decide (97 ≤ c.toNat) := by rw [decide_eq_decide]; omega
   have h01 : decide ((c.toNat : Int) ≤ 122) = decide (c.toNat ≤ 122) := by rw [decide_eq_decide]; omega
   have h1 : decide ((c.toNat : Int) ≥ 65) = decide (65 ≤ c.toNat) := by rw [decide_eq_decide]; omega
   have h2 : decide ((c.toNat : Int) ≤ 90) = decide (c.toNat ≤ 90) := by rw [decide_eq_decide]; omega
   have h3 : decide ((c.toNat : Int) ≥ 48) = decide (48 ≤ c.toNat) := by rw [decide_eq_decide]; omega
   have h4 : decide ((c.toNat : Int) ≤ 57) = decide (c.toNat ≤ 57) := by rw [decide_eq_decide]; omega
   have h5 : ((c.toNat : Int) == 95) = decide (c.toNat = 95) := by
    rw [Bool.eq_iff_iff]; simp only [beq_iff_eq, decide_eq_true_eq]; omega
   rw [h0, h01, h1, h2, h3, h4, h5]
  rw [e]
  refine ift.of (fun h => ?_) (fun h => ?_)
  ·rw [hn, all_no hm (by simpa using h)] at k; exact k
  ·rw [w_i64 (by omega) (by omega)]
   refine ⟨⟨i + 1, by omega, by omega, rfl, ?_⟩, by first | omega | (dsimp only; omega)⟩
   rw [hat, ha]; simpa using h
 ·have hie : i = s.length := by have := of_decide_eq_false h; omega
  rw [hie, List.take_length] at ha
  rw [hn, ha] at k; exact k
theorem take_no {s : Str} {i : Nat} (h : i < s.length) (h1 : (46 : UInt8) ∉ s.take i) (h2 : s[i] ≠ 46) : (46 : UInt8) ∉ s.take (i + 1) := by
 rw [List.take_add_one, List.getElem?_eq_getElem h, Option.toList_some, List.mem_append]
 rintro (hh | hh)
 ·exact h1 hh
 ·exact h2 (List.mem_singleton.1 hh).symm
theorem split_at {s : Str} {i : Nat} (h : i < s.length) : s = s.take i ++ s[i] :: s.drop (i + 1) := by
 rw [← List.drop_eq_getElem_cons h, List.take_append_drop]
theorem ref02_Names_ok {s : Str} {K : Bool → Heap → Prop} (hs : s.length ≤ 140737488355328) (k : K (namesS s) H) : c_ref02_Names C s K H := by
 apply ad_ref02_Names
 unfold sh_ref02_Names
 unfold namesS at k
 refine ift.of (fun h => ?_) (fun h => ?_)
 ·simp only [Bool.or_eq_true, beq_iff_eq] at h
  rw [if_pos (show s = trueS ∨ s = falseS from h)] at k; exact k
 simp only [Bool.or_eq_false_iff, beq_eq_false_iff_ne, ne_eq] at h
 rw [if_neg (show ¬ (s = trueS ∨ s = falseS) from fun hh => hh.elim h.1 h.2)] at k
 refine ⟨fun x H' => ∃ i : Nat, x = (i : Int) ∧ i ≤ s.length ∧ H = H' ∧ (46 : UInt8) ∉ s.take i, fun x _ => s.length - x.toNat, ⟨0, rfl, Nat.zero_le _, rfl, by simp⟩, ?_⟩
 rintro x _ ⟨i, rfl, hi, rfl, hno⟩
 refine ift.of (fun h => ?_) (fun h => ?_)
 ·have hlt : i < s.length := by have := of_decide_eq_true h; omega
  refine ⟨s[i], by omega, getE hlt, ?_⟩
  dsimp only
  rw [e46]
  refine ift.of (fun h => ?_) (fun h => ?_)
  ·have hc : s[i] = 46 := of_decide_eq_true h
   have hsp := split_at hlt
   rw [hc] at hsp
   have hcut := cutD_at (s.take i) (s.drop (i + 1)) hno
   rw [← hsp] at hcut
   rw [hcut] at k
   dsimp only at k
   refine ⟨by omega, by omega, by omega, _, rfl, ?_⟩
   have e1 : (s.take ((i : Int)).toNat).drop (0 : Int).toNat = s.take i := by simp
   rw [e1]
   refine ref02_Name_ok (by simp; omega) ?_
   refine ⟨fun b H' => H = H' ∧ b = (nameS (s.take i) && nameS (s.drop (i + 1))), ?_, ?_⟩
   ·refine ift.of (fun h => ?_) (fun h => ⟨rfl, by rw [h]; rfl⟩)
    rw [w_i64 (by omega) (by omega)]
    refine ⟨by omega, by omega, by omega, _, rfl, ?_⟩
    have e2 : (s.take ((s.length : Int)).toNat).drop ((i : Int) + 1).toNat = s.drop (i + 1) := by
     have : ((i : Int) + 1).toNat = i + 1 := by omega
     rw [this]; simp
    rw [e2]
    exact ref02_Name_ok (by simp; omega) ⟨rfl, by rw [h]; rfl⟩
   ·rintro b _ ⟨rfl, rfl⟩
    exact k
  ·have hc : s[i] ≠ 46 := of_decide_eq_false h
   rw [w_i64 (by omega) (by omega)]
   exact ⟨⟨i + 1, by omega, by omega, rfl, take_no hlt hno hc⟩, by first | omega | (dsimp only; omega)⟩
 ·have hie : i = s.length := by have := of_decide_eq_false h; omega
  rw [hie, List.take_length] at hno
  rw [cutD_no s hno] at k
  exact ref02_Name_ok hs k
def numT (t : Str) : Bool := !t.isEmpty && !(decide (t.length > 1) && decide (t.head? = some 48)) && t.all digC
theorem numS_min {c : UInt8} {t : Str} : numS (45 :: c :: t) = if c = 48 then false else numT (c :: t) := by
 unfold numS numT unmin
 by_cases h : c = 48
 ·subst h; simp
 ·simp [h]
theorem numS_no {s : Str} (h : ¬ (s.length > 1 ∧ s.head? = some 45)) : numS s = numT s := by
 unfold numS numT unmin
 cases s with
 | nil => rfl
 | cons c t =>
  by_cases hc : c = 45
  ·subst hc
   have : t = [] := by cases t with
    | nil => rfl
    | cons d u => exact absurd ⟨by simp, rfl⟩ h
   subst this; decide
  ·simp only [List.head?_cons, Option.some.injEq, hc, if_false]
   by_cases h8 : c = 48
   ·subst h8
    cases t with
    | nil => decide
    | cons d u => simp
   ·simp [h8]
theorem ref02_Number_ok {s : Str} {K : Bool → Heap → Prop} (hs : s.length ≤ 140737488355328) (k : K (numS s) H) : c_ref02_Number C s K H := by
 apply ad_ref02_Number
 unfold sh_ref02_Number
 refine ⟨fun x H' => H = H' ∧ x.length ≤ s.length ∧ numT x = numS s, ?_, ?_⟩
 ·refine ⟨fun b H' => H = H' ∧ b = decide (s.length > 1 ∧ s.head? = some 45), ?_, ?_⟩
  ·refine ift.of (fun h => ?_) (fun h => ⟨rfl, ?_⟩)
   ·have h1 : s.length > 1 := by have := of_decide_eq_true h; omega
    cases s with
    | nil => simp at h1
    | cons c t =>
     refine ⟨c, by omega, rfl, rfl, ?_⟩
     rw [e45, decide_eq_decide]
     simp at h1 ⊢
     exact fun _ => h1
   ·have h1 := of_decide_eq_false h
    rw [eq_comm, decide_eq_false_iff_not]; omega
  rintro b _ ⟨rfl, rfl⟩
  refine ift.of (fun h => ?_) (fun h => ?_)
  ·obtain ⟨h1, h2⟩ := of_decide_eq_true h
   cases s with
   | nil => simp at h1
   | cons c0 t0 =>
   obtain rfl : c0 = 45 := by simpa using h2
   cases t0 with
   | nil => simp at h1
   | cons c t =>
   refine ⟨by omega, by simp; omega, by omega, c :: t, ?_, ?_⟩
   ·rw [List.take_of_length_le (by omega)]; rfl
   ·refine ⟨c, by omega, rfl, ?_⟩
    dsimp only
    rw [e48]
    rw [numS_min] at k
    refine ift.of (fun h => ?_) (fun h => ?_)
    ·rw [if_pos (of_decide_eq_true h)] at k; exact k
    ·refine ⟨rfl, by simp, ?_⟩
     rw [numS_min, if_neg (of_decide_eq_false h)]
  ·exact ⟨rfl, Nat.le_refl _, (numS_no (of_decide_eq_false h)).symm⟩
 rintro x _ ⟨rfl, hxl, hx⟩
 rw [← hx] at k
 clear hx
 refine ⟨fun b H' => H = H' ∧ b = (x.isEmpty || (decide (x.length > 1) && decide (x.head? = some 48))), ?_, ?_⟩
 ·refine ift.of (fun h => ⟨rfl, ?_⟩) (fun h => ?_)
  ·have : x = [] := by simpa using h
   subst this; rfl
  ·refine ⟨fun b H' => H = H' ∧ b = (decide (x.length > 1) && decide (x.head? = some 48)), ?_, ?_⟩
   ·refine ift.of (fun h => ?_) (fun h => ⟨rfl, ?_⟩)
    ·have h1 : x.length > 1 := by have := of_decide_eq_true h; omega
     rw [decide_eq_true h1]
     cases x with
     | nil => simp at h1
     | cons c t => exact ⟨c, by omega, rfl, rfl, by rw [e48]; simp⟩
    ·have h1 := of_decide_eq_false h
     rw [decide_eq_false (by omega)]; rfl
   ·rintro b _ ⟨rfl, rfl⟩
    have : x.isEmpty = false := by cases x with
     | nil => simp at h
     | cons c t => rfl
    rw [this]; exact ⟨rfl, rfl⟩
 rintro b _ ⟨rfl, rfl⟩
 have hnt : numT x = (!(x.isEmpty || (decide (x.length > 1) && decide (x.head? = some 48))) && x.all digC) := by unfold numT; simp [Bool.not_or]
 refine ift.of (fun h => ?_) (fun h => ?_)
 ·rw [hnt, h] at k; exact k
 rw [hnt, h, Bool.not_false, Bool.true_and] at k
 refine ⟨fun y H' => ∃ i : Nat, y = (i : Int) ∧ i ≤ x.length ∧ H = H' ∧ (x.take i).all digC = true, fun y _ => x.length - y.toNat, ⟨0, rfl, Nat.zero_le _, rfl, rfl⟩, ?_⟩
 rintro y _ ⟨i, rfl, hi, rfl, ha⟩
 refine ift.of (fun h => ?_) (fun h => ?_)
 ·have hlt : i < x.length := by have := of_decide_eq_true h; omega
  have hm := List.getElem_mem hlt
  have hat := all_take (p := digC) hlt
  have hge := getE hlt
  generalize x[i] = c at *
  refine ⟨c, by omega, hge, ?_⟩
  refine ⟨fun b H' => H = H' ∧ b = !digC c, ?_, ?_⟩
  ·refine ift.of (fun h => ⟨rfl, ?_⟩) (fun h => ?_)
   ·have h1 := of_decide_eq_true h
    unfold digC; rw [decide_eq_false (by omega)]; rfl
   ·have h1 := of_decide_eq_false h
    refine ⟨c, by omega, hge, rfl, ?_⟩
    unfold digC; rw [decide_eq_true (by omega : 48 ≤ c.toNat), Bool.true_and, ← decide_not, decide_eq_decide]; omega
  rintro b _ ⟨rfl, rfl⟩
  refine ift.of (fun h => ?_) (fun h => ?_)
  ·rw [all_no hm (by simpa using h)] at k; exact k
  ·rw [w_i64 (by omega) (by omega)]
   refine ⟨⟨i + 1, by omega, by omega, rfl, ?_⟩, by first | omega | (dsimp only; omega)⟩
   rw [hat, ha]; simpa using h
 ·have hie : i = x.length := by have := of_decide_eq_false h; omega
  rw [hie, List.take_length] at ha
  rw [ha] at k; exact k
theorem ref02_Digits_ok {s : Str} {K : Int → Heap → Prop} (hs : s.length ≤ 140737488355328) (hn : numS s = true) (k : K (digits s) H) : c_ref02_Digits C s K H := by
 apply ad_ref02_Digits
 unfold sh_ref02_Digits
 cases s with
 | nil => simp [numS, unmin] at hn
 | cons c t =>
  refine ⟨c, by omega, rfl, ?_⟩
  dsimp only
  rw [e45]
  unfold digits unmin at k
  refine ift.of (fun h => ?_) (fun h => ?_)
  ·have hc : c = 45 := of_decide_eq_true h
   rw [if_pos (by rw [hc]; rfl)] at k
   simp at hs
   rw [w_i64 (by simp only [List.length_cons]; omega) (by simp only [List.length_cons]; omega)]
   simpa using k
  ·rw [if_neg (by simpa using of_decide_eq_false h)] at k; exact k
end
end Sx
end

noncomputable section
set_option linter.unusedVariables false
set_option linter.unusedSimpArgs false
set_option maxRecDepth 10000
namespace Sx
open Go Go.Proofs
theorem index_spec (c : UInt8) : ∀ s : Str, (Lib.indexByte s c = -1 ∧ c ∉ s) ∨ ∃ k : Nat, Lib.indexByte s c = (k : Int) ∧ ∃ a b, s = a ++ c :: b ∧ a.length = k ∧ c ∉ a
 | [] => .inl ⟨rfl, by simp⟩
 | b :: s => by
  unfold Lib.indexByte
  by_cases h : b = c
  ·subst h
   exact .inr ⟨0, by simp, [], s, rfl, rfl, by simp⟩
  ·have hb : (b == c) = false := by simpa using h
   rw [hb]
   rcases index_spec c s with ⟨h1, h2⟩ | ⟨k, h1, a, d, h2, h3, h4⟩
   ·left
    rw [h1]
    refine ⟨by simp, by simp [h2, Ne.symm h]⟩
   ·right
    refine ⟨k + 1, ?_, b :: a, d, by rw [h2]; rfl, by simp [h3], by simp [h4, Ne.symm h]⟩
    rw [h1]
    have : ((k : Int) == -1) = false := by rw [beq_eq_false_iff_ne]; omega
    simp [this]
def setD (cs : List Value) (l : Str) : List Value := l.foldl (fun cs c => cs.set c.toNat (.bool true)) cs
def setD0 : List Value := List.replicate 256 (.bool false)
def digS : Str := [48, 49, 50, 51, 52, 53, 54, 55, 56, 57]
theorem setD_len (l : Str) : ∀ cs, (setD cs l).length = cs.length := by
 induction l with
 | nil => intro cs; rfl
 | cons c l ih => intro cs; simp only [setD, List.foldl_cons] at ih ⊢; rw [ih]; simp
theorem setD_snoc (l : Str) (c : UInt8) (cs : List Value) : setD cs (l ++ [c]) = (setD cs l).set c.toNat (.bool true) := by simp [setD]
theorem setD_b (l : Str) : ∀ cs : List Value, cs.all Value.oneCell' = true → (setD cs l).all Value.oneCell' = true := by
 induction l with
 | nil => intro cs h; exact h
 | cons c l ih =>
  intro cs h
  simp only [setD, List.foldl_cons] at ih ⊢
  refine ih _ ?_
  rw [List.all_eq_true] at h ⊢
  intro x hx
  rcases List.mem_or_eq_of_mem_set hx with hx | rfl
  ·exact h x hx
  ·rfl
theorem setD_get : ∀ n : Nat, n < 256 → (match (setD setD0 digS)[n]? with | some (.bool b) => b == (decide (48 ≤ n) && decide (n ≤ 57)) | _ => false) = true := by decide +kernel
theorem setD_dig (c : UInt8) : (setD setD0 digS)[c.toNat]? = some (.bool (digC c)) := by
 have h := setD_get c.toNat c.toBitVec.isLt
 unfold digC
 generalize (setD setD0 digS)[c.toNat]? = o at *
 cases o with
 | none => simp at h
 | some v => cases v <;> simp at h ⊢; exact h
section
variable {C : Ctx} {H : Heap}
theorem hasPrefix_ok {s p : Str} {K : Bool → Heap → Prop} (k : K (p.isPrefixOf s) H) : c_internal_stringslite_HasPrefix C s p K H := by
 apply ad_internal_stringslite_HasPrefix
 unfold sh_internal_stringslite_HasPrefix
 refine ⟨fun b H' => H = H' ∧ b = p.isPrefixOf s, ?_, ?_⟩
 ·refine ift.of (fun h => ?_) (fun h => ⟨rfl, ?_⟩)
  ·have hl : p.length ≤ s.length := by have := of_decide_eq_true h; omega
   refine ⟨by omega, by omega, by omega, s.take p.length, by simp, rfl, ?_⟩
   rw [Bool.eq_iff_iff, List.isPrefixOf_iff_prefix, beq_iff_eq, List.prefix_iff_eq_take]
   exact ⟨fun h => h.symm, fun h => h.symm⟩
  ·have hl := of_decide_eq_false h
   cases hh : p.isPrefixOf s with
   | false => rfl
   | true =>
    have := (List.isPrefixOf_iff_prefix.1 hh).length_le
    omega
 ·rintro b _ ⟨rfl, rfl⟩
  exact k
theorem trimPrefix_ok {s p : Str} {K : Str → Heap → Prop} (k : K (if p.isPrefixOf s then s.drop p.length else s) H) : c_strings_TrimPrefix C s p K H := by
 apply ad_strings_TrimPrefix
 unfold sh_strings_TrimPrefix
 apply ad_internal_stringslite_TrimPrefix
 unfold sh_internal_stringslite_TrimPrefix
 refine hasPrefix_ok ?_
 refine ift.of (fun h => ?_) (fun h => ?_)
 ·rw [if_pos h] at k
  have := (List.isPrefixOf_iff_prefix.1 h).length_le
  exact ⟨by omega, by omega, by omega, _, by simp, k⟩
 ·rw [if_neg (by rw [h]; decide)] at k; exact k
theorem cutDot_ok {s : Str} {K : Str → Str → Bool → Heap → Prop} (hs : s.length ≤ 140737488355328) (k : match cutD s with | some (a, b) => K a b true H | none => K s [] false H) : c_strings_Cut C s [46] K H := by
 apply ad_strings_Cut
 unfold sh_strings_Cut
 apply ad_internal_stringslite_Cut
 unfold sh_internal_stringslite_Cut
 have key : ∀ {K : Int → Heap → Prop}, K (Lib.indexByte s 46) H → c_internal_stringslite_Index C s [46] K H := by
  intro K k
  apply ad_internal_stringslite_Index
  unfold sh_internal_stringslite_Index
  refine ift.of (fun h => ?_) (fun h => ?_)
  ·have hs : [46] = s := by simpa using h
   subst hs
   exact k
  ·refine ift_pos rfl ⟨46, by omega, rfl, ?_⟩
   apply ad_internal_stringslite_IndexByte
   unfold sh_internal_stringslite_IndexByte
   exact k
 refine key ?_
 rcases index_spec 46 s with ⟨h1, h2⟩ | ⟨i, h1, a, b, h2, h3, h4⟩
 ·rw [h1]
  rw [cutD_no s h2] at k
  exact ift_neg rfl k
 ·rw [h1]
  subst h2
  rw [cutD_at a b h4] at k
  subst h3
  simp only [List.length_append, List.length_cons] at hs
  refine ift_pos (by rw [decide_eq_true_eq]; omega) ?_
  refine ⟨by omega, by omega, by simp; omega, a, by simp, ?_⟩
  have e1 : (([46] : Str).length : Int) = 1 := rfl
  rw [e1, w_i64 (by omega) (by omega)]
  refine ⟨by omega, by simp; omega, by omega, b, ?_, k⟩
  have e2 : ((a.length : Int) + 1).toNat = a.length + 1 := by omega
  rw [List.take_of_length_le (by omega), e2, List.drop_append]
  simp
/-- the set of digits -/
def DSet (H : Heap) (b : Nat) : Prop := H b = some (true, .row (setD setD0 digS))
theorem contains_ok {b : Nat} {c : UInt8} {K : Bool → Heap → Prop} (h : DSet H b) (k : K (digC c) H) : c_strings_asciiSet_contains C (some (b, 0)) (c.toNat : Int) K H := by
 apply ad_strings_asciiSet_contains
 unfold sh_strings_asciiSet_contains
 refine ⟨(b, 0), rfl, by omega, by have := c.toBitVec.isLt; have : c.toNat < 256 := this; omega, digC c, ?_, k⟩
 rw [rd_row h]
 have := setD_dig c
 simpa using this
theorem trimR_ok {b : Nat} {s : Str} {K : Str → Heap → Prop} (hs : s.length ≤ 140737488355328) (h : DSet H b) (k : ∀ t, t.length ≤ s.length → t.all digC = s.all digC → K t H) : c_strings_trimRightASCII C s (some (b, 0)) K H := by
 apply ad_strings_trimRightASCII
 unfold sh_strings_trimRightASCII
 refine ⟨fun t H' => H = H' ∧ t.length ≤ s.length ∧ t.all digC = s.all digC, ?_, ?_⟩
 rotate_left
 ·rintro t _ ⟨rfl, h1, h2⟩
  exact k t h1 h2
 refine ⟨fun t H' => H = H' ∧ t.length ≤ s.length ∧ t.all digC = s.all digC, fun t _ => t.length, ⟨rfl, Nat.le_refl _, rfl⟩, ?_⟩
 rintro t _ ⟨rfl, h1, h2⟩
 refine ift.of (fun hh => ?_) (fun hh => ⟨rfl, h1, h2⟩)
 have hl : 0 < t.length := by have := of_decide_eq_true hh; omega
 have hne := List.ne_nil_of_length_pos hl
 have hd : t.dropLast ++ [t.getLast hne] = t := List.dropLast_concat_getLast hne
 rw [w_i64 (by omega) (by omega)]
 refine ⟨t.getLast hne, by omega, getL hl rfl, ?_⟩
 refine contains_ok h ?_
 refine ift.of (fun hc => ⟨rfl, h1, h2⟩) (fun hc => ?_)
 have e1 : (t.take ((t.length : Int) - 1).toNat).drop (0 : Int).toNat = t.dropLast := by
  have : ((t.length : Int) - 1).toNat = t.length - 1 := by omega
  rw [this, List.dropLast_eq_take]; simp
 refine ⟨by omega, by omega, by omega, _, e1.symm, ?_⟩
 have hdl := List.length_dropLast (xs := t)
 refine ⟨⟨rfl, by omega, ?_⟩, by dsimp only; omega⟩
 rw [← h2]
 conv => rhs; rw [← hd]
 rw [List.all_append]
 simp at hc
 simp [hc]
theorem trimL_ok {b : Nat} {s : Str} {K : Str → Heap → Prop} (hs : s.length ≤ 140737488355328) (h : DSet H b) (k : ∀ t, t.all digC = s.all digC → (t = [] ∨ t.all digC = false) → K t H) : c_strings_trimLeftASCII C s (some (b, 0)) K H := by
 apply ad_strings_trimLeftASCII
 unfold sh_strings_trimLeftASCII
 refine ⟨fun t H' => H = H' ∧ t.all digC = s.all digC ∧ (t = [] ∨ t.all digC = false), ?_, ?_⟩
 rotate_left
 ·rintro t _ ⟨rfl, h1, h2⟩
  exact k t h1 h2
 refine ⟨fun t H' => H = H' ∧ t.length ≤ s.length ∧ t.all digC = s.all digC, fun t _ => t.length, ⟨rfl, Nat.le_refl _, rfl⟩, ?_⟩
 rintro t _ ⟨rfl, h1, h2⟩
 cases t with
 | nil => exact ift_neg rfl ⟨rfl, h2, .inl rfl⟩
 | cons c t =>
  refine ift_pos (by rw [decide_eq_true_eq]; simp only [List.length_cons]; omega) ?_
  refine ⟨c, by omega, rfl, ?_⟩
  refine contains_ok h ?_
  refine ift.of (fun hc => ⟨rfl, h2, .inr ?_⟩) (fun hc => ?_)
  ·simp at hc; simp [hc]
  ·refine ⟨by omega, by simp only [List.length_cons]; omega, by omega, t, ?_, ⟨rfl, by simp only [List.length_cons] at h1; omega, ?_⟩, by simp⟩
   ·rw [List.take_of_length_le (by omega)]; rfl
   ·rw [← h2]; simp at hc; simp [hc]
theorem makeDigits_ok {K : List Value → Bool → Heap → Prop} (k : K (setD setD0 digS) true H) : c_strings_makeASCIISet C digS K H := by
 apply c_strings_makeASCIISet.gh
 apply ad_strings_makeASCIISet
 unfold sh_strings_makeASCIISet
 intro b n
 refine ⟨fun x H' => ∃ i : Nat, x = (i : Int) ∧ i ≤ 10 ∧ H' = H.put b (.row (setD setD0 (digS.take i))), fun x _ => 10 - x.toNat, ⟨0, rfl, by omega, rfl⟩, ?_⟩
 rintro x _ ⟨i, rfl, hi, rfl⟩
 have hlen : (setD setD0 (digS.take i)).length = 256 := by rw [setD_len]; simp [setD0]
 refine ift.of (fun h => ?_) (fun h => ?_)
 ·have hlt : i < digS.length := by have := of_decide_eq_true h; omega
  have hlt' : i < 10 := hlt
  refine ⟨digS[i], by omega, getE hlt, ?_⟩
  have hm : ∀ c ∈ digS, c.toNat < 128 := by decide
  have h128 := hm _ (List.getElem_mem hlt)
  have htk : digS.take (i + 1) = digS.take i ++ [digS[i]] := by rw [List.take_add_one, List.getElem?_eq_getElem hlt]; rfl
  generalize digS[i] = c at *
  refine ift_neg (by rw [decide_eq_false_iff_not]; omega) ?_
  refine ⟨by omega, by omega, _, Heap.put_same .., by rw [hlen]; simp; omega, ?_⟩
  rw [w_i64 (by omega) (by omega), Heap.put_put]
  refine ⟨⟨i + 1, by omega, by omega, ?_⟩, by first | omega | (dsimp only; omega)⟩
  rw [htk, setD_snoc]
  have : (b, 0).2 + (c.toNat : Int).toNat * 1 = c.toNat := by simp
  rw [this]
 ·have hi10 : i = 10 := by have := of_decide_eq_false h; have : digS.length = 10 := rfl; omega
  subst hi10
  have e : digS.take 10 = digS := rfl
  rw [e] at hlen ⊢
  have hr : ∀ {B : Heap}, B b = some (true, .row (setD setD0 digS)) → rds B (b, 0) (setD setD0 digS) := fun h => rds_row h fun j v hj => by simpa using hj
  refine ⟨_, hlen, hr (Heap.put_same ..), hlen, setD_b _ _ (by decide +kernel), _, Heap.put_same .., by simp, ?_⟩
  have esp : splice (setD setD0 digS) (b, 0).2 (setD setD0 digS) = setD setD0 digS := by
   unfold splice; simp
  rw [esp, Heap.put_put]
  exact ⟨_, hlen, hr (Heap.put_same ..), H, Gh.le (Heap.le_put n), k⟩
theorem trimDig_ok {s : Str} {K : Str → Heap → Prop} (hs : s.length ≤ 140737488355328) (k : ∀ t, (t = [] ↔ s.all digC = true) → K t H) : c_strings_Trim C s digS K H := by
 apply c_strings_Trim.gh
 apply ad_strings_Trim
 unfold sh_strings_Trim
 refine ift.of (fun h => ?_) (fun h => ?_)
 ·have : s = [] := by simpa [digS] using h
  subst this
  exact ⟨H, Gh.refl _, k [] (by simp)⟩
 refine ⟨fun b H' => H = H' ∧ b = false, ift_neg rfl ⟨rfl, rfl⟩, ?_⟩
 rintro _ _ ⟨rfl, rfl⟩
 refine ift_neg rfl ?_
 refine makeDigits_ok ?_
 intro b n
 have hlen : (setD setD0 digS).length = 256 := by rw [setD_len]; simp [setD0]
 refine ⟨hlen, setD_b _ _ (by decide +kernel), _, Heap.put_same .., by rw [hlen]; simp, ?_⟩
 have esp : splice (List.replicate 256 (.bool false : Value)) (b, 0).2 (setD setD0 digS) = setD setD0 digS := by
  unfold splice; simp [hlen]
 rw [esp, Heap.put_put]
 refine ift_pos rfl ?_
 refine trimR_ok hs (Heap.put_same ..) fun t ht1 ht2 => ?_
 refine trimL_ok (by omega) (Heap.put_same ..) fun u hu1 hu2 => ?_
 refine ⟨H, Gh.le (Heap.le_put n), k u ?_⟩
 rw [← ht2, ← hu1]
 constructor
 ·rintro rfl; rfl
 ·intro h
  rcases hu2 with h2 | h2
  ·exact h2
  ·rw [h] at h2; cases h2
theorem value_number_ok {s : Str} {K : Int → Bool → Heap → Prop} (hs : s.length ≤ 140737488355328) (k : K (if numS s then (digits s : Int) else 0) (numS s) H) : c_value_number C s K H := by
 apply ad_value_number
 unfold sh_value_number
 refine trimPrefix_ok ?_
 have e : (if ([45] : Str).isPrefixOf s then s.drop ([45] : Str).length else s) = unmin s := by
  unfold unmin
  cases s with
  | nil => rfl
  | cons c t =>
   by_cases hc : c = 45
   ·subst hc; simp [List.isPrefixOf]
   ·simp [List.isPrefixOf, hc, Ne.symm hc]
 rw [e]
 have hul : (unmin s).length ≤ s.length := by unfold unmin; split <;> simp
 have hdg : digits s = (unmin s).length := rfl
 have hnu : numS s = (!(unmin s).isEmpty && (unmin s).all digC && !(decide ((unmin s).head? = some 48) && decide (s ≠ [48]))) := rfl
 rw [hdg, hnu] at k
 clear hdg hnu e
 generalize unmin s = d at *
 refine ⟨fun b H' => H = H' ∧ b = !(!d.isEmpty && d.all digC), ?_, ?_⟩
 ·refine ift.of (fun h => ⟨rfl, ?_⟩) (fun h => ?_)
  ·have : d = [] := by simpa using h
   subst this; rfl
  ·have hne : d ≠ [] := by simpa using h
   refine trimDig_ok (by omega) fun t ht => ⟨rfl, ?_⟩
   have he : d.isEmpty = false := by cases d with
    | nil => exact absurd rfl hne
    | cons _ _ => rfl
   rw [he]
   cases hd : d.all digC with
   | true => rw [ht.2 hd]; rfl
   | false =>
    have : t ≠ [] := fun e => by rw [ht.1 e] at hd; cases hd
    simpa using this
 rintro b _ ⟨rfl, rfl⟩
 refine ⟨fun b H' => H = H' ∧ b = !(!d.isEmpty && d.all digC && !(decide (d.head? = some 48) && decide (s ≠ [48]))), ?_, ?_⟩
 ·refine ift.of (fun h => ⟨rfl, ?_⟩) (fun h => ?_)
  ·simp only [Bool.not_eq_true'] at h
   rw [h]; rfl
  ·simp only [Bool.not_eq_false'] at h
   rw [h]
   cases d with
   | nil => simp at h
   | cons c t =>
    refine ⟨c, by omega, rfl, rfl, ?_⟩
    rw [e48]
    simp only [List.head?_cons, Option.some.injEq, Bool.true_and, Bool.not_not]
    congr 1
    rw [decide_not]; congr 1
    rw [Bool.eq_iff_iff]; simp
 rintro b _ ⟨rfl, rfl⟩
 refine ift.of (fun h => ?_) (fun h => ?_)
 ·simp only [Bool.not_eq_true'] at h
  rw [h] at k; exact k
 ·simp only [Bool.not_eq_false'] at h
  rw [h] at k; exact k
end
end Sx
end

noncomputable section
set_option linter.unusedVariables false
set_option linter.unusedSimpArgs false
set_option maxRecDepth 10000
namespace Sx
open Go Go.Proofs
section
variable {C : Ctx} {H : Heap}
theorem sEmpty {s : Str} : (s == ([] : Str)) = s.isEmpty := by cases s <;> rfl
theorem lenZ {l : List V} {n : Nat} (h : n = l.length) (m : Nat) : ((n : Int) == (m : Int)) = decide (l.length = m) := by
 rw [Bool.eq_iff_iff]; simp only [beq_iff_eq, decide_eq_true_eq]; omega
theorem ref02_form_ok {v : V} {x : TV} {H : Heap} {K : Bool → Heap → Prop} (hv : VIs H v x) (hB : VB v) (k : K (formV v) H) : c_ref02_form C x K H := by
 refine V.rec_ (P := fun v => ∀ {x H} {K : Bool → Heap → Prop}, VIs H v x → VB v → K (formV v) H → c_ref02_form C x K H) (fun v ih => ?_) v hv hB k
 clear hv hB k
 intro x H K hv hB k
 apply c_ref02_form.gh
 apply ad_ref02_form
 unfold sh_ref02_form
 intro b1 n1
 have hr := hv.row
 have hl := hr.len
 have hbl := hB.l
 have hbs := hB.s
 have hk := hv.kind
 have hn := hv.num
 have ht := hv.txt
 have hb1 : (H.put b1 (.row (T_api_Value.c x))) b1 = some (true, .row (T_api_Value.c x)) := Heap.put_same ..
 have hle1 := Heap.le_put n1 (g := .row (T_api_Value.c x)) (m := true)
 generalize H.put b1 (.row (T_api_Value.c x)) = H1 at *
 refine ⟨fun b H' => H1 = H' ∧ b = okN v.k v.n v.s v.l.length, ?_, ?_⟩
 rotate_left
 ·rintro b _ ⟨rfl, rfl⟩
  refine ⟨fun y H' => ∃ i : Nat, y.2 = (i : Int) ∧ i ≤ v.l.length ∧ H1 = H' ∧ (y.1 = true → okN v.k v.n v.s v.l.length = true ∧ formVs (v.l.take i) = true) ∧ (y.1 = false → formV v = false), fun y _ => v.l.length - y.2.toNat, ⟨0, rfl, Nat.zero_le _, rfl, fun h => ⟨h, rfl⟩, fun h => by dsimp only at h; rw [formV_eq, h]; rfl⟩, ?_⟩
  rintro ⟨f, y⟩ _ ⟨i, hy, hi, rfl, h1, h2⟩
  dsimp only at hy h1 h2
  subst hy
  refine bxL hb1 ?_
  rw [hl]
  refine ift.of (fun h => ?_) (fun h => ?_)
  ·simp only [Bool.and_eq_true, decide_eq_true_eq] at h
   have hlt : i < v.l.length := by omega
   obtain ⟨h3, h4⟩ := h1 h.2
   have hmem := List.getElem_mem hlt
   refine bxL hb1 ?_
   refine hr.ld hle1 rfl hlt fun z hz => ?_
   refine ih _ hmem (hz.le hle1) (hB.at hlt) ?_
   dsimp only
   rw [w_i64 (by omega) (by omega)]
   refine ⟨⟨i + 1, by omega, by omega, rfl, fun hf => ⟨h3, ?_⟩, fun hf => ?_⟩, by first | omega | (dsimp only; omega)⟩
   ·rw [formVs_take hlt, h4]; exact hf
   ·rw [formV_eq, formVs_false hmem hf, Bool.and_false]
  ·dsimp only
   refine ⟨H, Gh.le hle1, ?_⟩
   cases hf : f with
   | false => rw [h2 hf] at k; exact k
   | true =>
    rw [hf] at h
    simp only [Bool.and_true, decide_eq_false_iff_not] at h
    have hie : i = v.l.length := by omega
    subst hie
    obtain ⟨h3, h4⟩ := h1 hf
    rw [List.take_length] at h4
    rw [formV_eq, h3, h4] at k; exact k
 refine bxK hb1 ?_
 rw [hk]
 unfold okN
 refine ift.of (fun h => ?_) (fun h => ?_)
 ·have h : v.k = 1 := by simpa using h
  rw [if_pos h]
  refine bxN hb1 ?_
  refine ⟨fun b H' => H1 = H' ∧ b = (v.n == 0 || v.n == 1), ?_, ?_⟩
  ·rw [hn]
   refine ift.of (fun h => ⟨rfl, by rw [h]; rfl⟩) (fun h => ?_)
   refine bxN hb1 ⟨rfl, ?_⟩
   rw [h, hn]; rfl
  rintro _ _ ⟨rfl, rfl⟩
  refine ⟨fun b H' => H1 = H' ∧ b = ((v.n == 0 || v.n == 1) && v.s.isEmpty), ?_, ?_⟩
  ·refine ift.of (fun h => ?_) (fun h => ⟨rfl, by rw [h]; rfl⟩)
   refine bxS hb1 ⟨rfl, ?_⟩
   rw [h, ht, sEmpty]; rfl
  rintro _ _ ⟨rfl, rfl⟩
  refine ⟨fun b H' => H1 = H' ∧ b = ((v.n == 0 || v.n == 1) && v.s.isEmpty && decide (v.l.length = 0)), ?_, ?_⟩
  ·refine ift.of (fun h => ?_) (fun h => ⟨rfl, by rw [h]; rfl⟩)
   refine bxL hb1 ⟨rfl, ?_⟩
   rw [h]; exact lenZ hl 0
  rintro _ _ ⟨rfl, rfl⟩
  exact ⟨rfl, rfl⟩
 rw [if_neg (by simpa using h)]
 refine ift.of (fun h => ?_) (fun h => ?_)
 ·have h : v.k = 2 := by simpa using h
  rw [if_pos h]
  refine bxS hb1 ?_
  refine ⟨fun b H' => H1 = H' ∧ b = (v.s.isEmpty && decide (v.l.length = 0)), ?_, ?_⟩
  ·rw [ht, sEmpty]
   refine ift.of (fun h => ?_) (fun h => ⟨rfl, by rw [h]; rfl⟩)
   refine bxL hb1 ⟨rfl, ?_⟩
   rw [h]; exact lenZ hl 0
  rintro _ _ ⟨rfl, rfl⟩
  exact ⟨rfl, rfl⟩
 rw [if_neg (by simpa using h)]
 refine ift.of (fun h => ?_) (fun h => ?_)
 ·have h : v.k = 3 := by simpa using h
  rw [if_pos h]
  refine bxN hb1 ?_
  refine ⟨fun b H' => H1 = H' ∧ b = (v.n == 0 && decide (v.l.length = 0)), ?_, ?_⟩
  ·rw [hn]
   refine ift.of (fun h => ?_) (fun h => ⟨rfl, by rw [h]; rfl⟩)
   refine bxL hb1 ⟨rfl, ?_⟩
   rw [h]; exact lenZ hl 0
  rintro _ _ ⟨rfl, rfl⟩
  refine ⟨fun b H' => H1 = H' ∧ b = (numS v.s && v.n == 0 && decide (v.l.length = 0)), ?_, ?_⟩
  ·refine ift.of (fun h => ?_) (fun h => ⟨rfl, ?_⟩)
   ·refine bxS hb1 ?_
    rw [ht]
    refine ref02_Number_ok hbs ⟨rfl, ?_⟩
    rw [Bool.and_assoc, h, Bool.and_true]
   ·rw [Bool.and_assoc, h, Bool.and_false]
  rintro _ _ ⟨rfl, rfl⟩
  exact ⟨rfl, rfl⟩
 rw [if_neg (by simpa using h)]
 refine ift.of (fun h => ?_) (fun h => ?_)
 ·have h : v.k = 4 := by simpa using h
  rw [if_pos h]
  refine bxN hb1 ?_
  refine ⟨fun b H' => H1 = H' ∧ b = (v.n == 0 && decide (v.l.length = 0)), ?_, ?_⟩
  ·rw [hn]
   refine ift.of (fun h => ?_) (fun h => ⟨rfl, by rw [h]; rfl⟩)
   refine bxL hb1 ⟨rfl, ?_⟩
   rw [h]; exact lenZ hl 0
  rintro _ _ ⟨rfl, rfl⟩
  exact ⟨rfl, rfl⟩
 rw [if_neg (by simpa using h)]
 refine ift.of (fun h => ?_) (fun h => ?_)
 ·have h : v.k = 5 := by simpa using h
  rw [if_pos h]
  refine bxN hb1 ?_
  refine ⟨fun b H' => H1 = H' ∧ b = (v.n == 0 && v.s.isEmpty), ?_, ?_⟩
  ·rw [hn]
   refine ift.of (fun h => ?_) (fun h => ⟨rfl, by rw [h]; rfl⟩)
   refine bxS hb1 ⟨rfl, ?_⟩
   rw [h, ht, sEmpty]; rfl
  rintro _ _ ⟨rfl, rfl⟩
  refine ⟨fun b H' => H1 = H' ∧ b = (v.n == 0 && v.s.isEmpty && decide (v.l.length ≠ 1)), ?_, ?_⟩
  ·refine ift.of (fun h => ?_) (fun h => ⟨rfl, by rw [h]; rfl⟩)
   refine bxL hb1 ⟨rfl, ?_⟩
   rw [h, bne, show ((x.L.len : Int) == 1) = decide (v.l.length = 1) from lenZ hl 1, decide_not]; rfl
  rintro _ _ ⟨rfl, rfl⟩
  exact ⟨rfl, rfl⟩
 rw [if_neg (by simpa using h)]
 refine ift.of (fun h => ?_) (fun h => ?_)
 ·have h : v.k = 6 := by simpa using h
  rw [if_pos h]
  refine bxN hb1 ?_
  refine ⟨fun b H' => H1 = H' ∧ b = (v.n == 0 && namesS v.s), ?_, ?_⟩
  ·rw [hn]
   refine ift.of (fun h => ?_) (fun h => ⟨rfl, by rw [h]; rfl⟩)
   refine bxS hb1 ?_
   rw [ht]
   refine ref02_Names_ok hbs ⟨rfl, ?_⟩
   rw [h]; rfl
  rintro _ _ ⟨rfl, rfl⟩
  exact ⟨rfl, rfl⟩
 rw [if_neg (by simpa using h)]
 exact ⟨rfl, rfl⟩
theorem okN_num {k n : Int} {s : Str} {m : Nat} (h : okN k n s m = true) (hk : k = 3) : numS s = true := by
 unfold okN at h
 rw [if_neg (by omega), if_neg (by omega), if_pos hk] at h
 simp only [Bool.and_eq_true] at h
 exact h.1.1
theorem ref02_fits_ok {v : V} {x : TV} {H : Heap} {K : Bool → Heap → Prop} (hv : VIs H v x) (hB : VB v) (hF : formV v = true) (k : K (fitsV v) H) : c_ref02_fits C x K H := by
 refine V.rec_ (P := fun v => ∀ {x H} {K : Bool → Heap → Prop}, VIs H v x → VB v → formV v = true → K (fitsV v) H → c_ref02_fits C x K H) (fun v ih => ?_) v hv hB hF k
 clear hv hB hF k
 intro x H K hv hB hF k
 apply c_ref02_fits.gh
 apply ad_ref02_fits
 unfold sh_ref02_fits
 intro b1 n1
 have hr := hv.row
 have hl := hr.len
 have hbl := hB.l
 have hbs := hB.s
 have hk := hv.kind
 have hn := hv.num
 have ht := hv.txt
 rw [formV_eq, Bool.and_eq_true] at hF
 have hb1 : (H.put b1 (.row (T_api_Value.c x))) b1 = some (true, .row (T_api_Value.c x)) := Heap.put_same ..
 have hle1 := Heap.le_put n1 (g := .row (T_api_Value.c x)) (m := true)
 generalize H.put b1 (.row (T_api_Value.c x)) = H1 at *
 refine ⟨fun b H' => H1 = H' ∧ b = fitN v.k v.s v.l.length, ?_, ?_⟩
 rotate_left
 ·rintro b _ ⟨rfl, rfl⟩
  refine ⟨fun y H' => ∃ i : Nat, y.2 = (i : Int) ∧ i ≤ v.l.length ∧ H1 = H' ∧ (y.1 = true → fitN v.k v.s v.l.length = true ∧ fitsVs (v.l.take i) = true) ∧ (y.1 = false → fitsV v = false), fun y _ => v.l.length - y.2.toNat, ⟨0, rfl, Nat.zero_le _, rfl, fun h => ⟨h, rfl⟩, fun h => by dsimp only at h; rw [fitsV_eq, h]; rfl⟩, ?_⟩
  rintro ⟨f, y⟩ _ ⟨i, hy, hi, rfl, h1, h2⟩
  dsimp only at hy h1 h2
  subst hy
  refine bxL hb1 ?_
  rw [hl]
  refine ift.of (fun h => ?_) (fun h => ?_)
  ·simp only [Bool.and_eq_true, decide_eq_true_eq] at h
   have hlt : i < v.l.length := by omega
   obtain ⟨h3, h4⟩ := h1 h.2
   have hmem := List.getElem_mem hlt
   refine bxL hb1 ?_
   refine hr.ld hle1 rfl hlt fun z hz => ?_
   refine ih _ hmem (hz.le hle1) (hB.at hlt) (formVs_mem hmem hF.2) ?_
   dsimp only
   rw [w_i64 (by omega) (by omega)]
   refine ⟨⟨i + 1, by omega, by omega, rfl, fun hf => ⟨h3, ?_⟩, fun hf => ?_⟩, by first | omega | (dsimp only; omega)⟩
   ·rw [fitsVs_take hlt, h4]; exact hf
   ·have h5 : fitsVs (v.l.take (i + 1)) = false := by rw [fitsVs_take hlt]; rw [hf, Bool.and_false]
    have h6 := fitsVs_append (v.l.take (i + 1)) (v.l.drop (i + 1))
    rw [List.take_append_drop, h5] at h6
    rw [fitsV_eq, h6]; simp
  ·dsimp only
   refine ⟨H, Gh.le hle1, ?_⟩
   cases hf : f with
   | false => rw [h2 hf] at k; exact k
   | true =>
    rw [hf] at h
    simp only [Bool.and_true, decide_eq_false_iff_not] at h
    have hie : i = v.l.length := by omega
    subst hie
    obtain ⟨h3, h4⟩ := h1 hf
    rw [List.take_length] at h4
    rw [fitsV_eq, h3, h4] at k; exact k
 refine bxK hb1 ?_
 rw [hk]
 unfold fitN
 refine ift.of (fun h => ?_) (fun h => ?_)
 ·have h : v.k = 3 := by simpa using h
  rw [if_pos h]
  refine bxS hb1 ?_
  rw [ht]
  refine ref02_Digits_ok hbs (okN_num hF.1 h) ⟨rfl, ?_⟩
  rw [decide_eq_decide]; omega
 rw [if_neg (by simpa using h)]
 refine ift.of (fun h => ?_) (fun h => ?_)
 ·have h : v.k = 4 := by simpa using h
  rw [if_pos h]
  refine bxS hb1 ⟨rfl, ?_⟩
  rw [ht, decide_eq_decide]; omega
 rw [if_neg (by simpa using h)]
 refine ift.of (fun h => ?_) (fun h => ?_)
 ·have h : v.k = 5 := by simpa using h
  rw [if_pos h]
  refine bxL hb1 ⟨rfl, ?_⟩
  rw [decide_eq_decide]; omega
 rw [if_neg (by simpa using h)]
 refine ift.of (fun h => ?_) (fun h => ?_)
 ·have h : v.k = 6 := by simpa using h
  rw [if_pos h]
  refine bxL hb1 ⟨rfl, ?_⟩
  rw [decide_eq_decide]; omega
 rw [if_neg (by simpa using h)]
 exact ⟨rfl, rfl⟩
theorem ref02_Check_ok {v : V} {x : TV} {H : Heap} {K : Int → Heap → Prop} (hv : VIs H v x) (hB : VB v) (hs : vsize v ≤ 4611686018427387904) (k : K (checkV v) H) : c_ref02_Check C x K H := by
 apply c_ref02_Check.gh
 apply ad_ref02_Check
 unfold sh_ref02_Check
 intro b1 n1
 have hb1 : (H.put b1 (.row (T_api_Value.c x))) b1 = some (true, .row (T_api_Value.c x)) := Heap.put_same ..
 have hle1 := Heap.le_put n1 (g := .row (T_api_Value.c x)) (m := true)
 generalize H.put b1 (.row (T_api_Value.c x)) = H1 at *
 unfold checkV at k
 refine bxV hb1 (ref02_Depth_ok (hv.le hle1) hB hs ?_)
 refine ift.of (fun h => ?_) (fun h => ?_)
 ·have h := of_decide_eq_true h
  rw [if_pos (by omega)] at k
  exact ⟨H, Gh.le hle1, k⟩
 have h := of_decide_eq_false h
 rw [if_neg (by omega)] at k
 refine bxV hb1 (ref02_form_ok (hv.le hle1) hB ?_)
 refine ift.of (fun h => ?_) (fun h => ?_)
 ·have h : formV v = false := by simpa using h
  rw [if_pos h] at k
  exact ⟨H, Gh.le hle1, k⟩
 have hf : formV v = true := by simpa using h
 rw [if_neg (by rw [hf]; decide)] at k
 refine bxV hb1 (ref02_fits_ok (hv.le hle1) hB hf ?_)
 refine ift.of (fun h => ?_) (fun h => ?_)
 ·have h : fitsV v = false := by simpa using h
  rw [if_pos h] at k
  exact ⟨H, Gh.le hle1, k⟩
 have hf : fitsV v = true := by simpa using h
 rw [if_neg (by rw [hf]; decide)] at k
 exact ⟨H, Gh.le hle1, k⟩
end
end Sx
end

noncomputable section
set_option linter.unusedVariables false
set_option linter.unusedSimpArgs false
set_option maxRecDepth 10000
namespace Sx
open Go Go.Proofs
theorem names_cut (s : Str) : namesS s = (match cutD s with | some (a, b) => nameS a && nameS b | none => nameS s && !decide (s = trueS) && !decide (s = falseS)) := by
 unfold namesS
 by_cases ht : s = trueS
 ·subst ht; rfl
 by_cases hf : s = falseS
 ·subst hf; rfl
 rw [if_neg (fun h => h.elim ht hf)]
 cases hc : cutD s with
 | none => simp [ht, hf]
 | some p => rfl
section
variable {C : Ctx} {H : Heap}
theorem look_ok {v : V} {x : TV} {H : Heap} {K : Bool → Bool → Heap → Prop} (hv : VIs H v x) (hB : VB v) (k : ∀ g, (formV v = true → g = fitsV v) → K (formV v) g H) : c_value_item_look C x K H := by
 refine V.rec_ (P := fun v => ∀ {x H} {K : Bool → Bool → Heap → Prop}, VIs H v x → VB v → (∀ g, (formV v = true → g = fitsV v) → K (formV v) g H) → c_value_item_look C x K H) (fun v ih => ?_) v hv hB k
 clear hv hB k
 intro x H K hv hB k
 apply c_value_item_look.gh
 apply ad_value_item_look
 unfold sh_value_item_look
 intro b1 n1
 have hr := hv.row
 have hl := hr.len
 have hbl := hB.l
 have hbs := hB.s
 have hk := hv.kind
 have hn := hv.num
 have ht := hv.txt
 have hb1 : (H.put b1 (.row (T_api_Value.c x))) b1 = some (true, .row (T_api_Value.c x)) := Heap.put_same ..
 have hle1 := Heap.le_put n1 (g := .row (T_api_Value.c x)) (m := true)
 generalize H.put b1 (.row (T_api_Value.c x)) = H1 at *
 refine bxN hb1 ?_
 refine ⟨fun b H' => H1 = H', ?_, ?_⟩
 ·exact ift.of (fun _ => bxS hb1 rfl) (fun _ => rfl)
 rintro _ _ rfl
 refine ⟨fun b H' => H1 = H', ?_, ?_⟩
 ·exact ift.of (fun _ => bxL hb1 rfl) (fun _ => rfl)
 rintro _ _ rfl
 refine ⟨fun b H' => H1 = H' ∧ b.1 = okN v.k v.n v.s v.l.length ∧ (b.1 = true → b.2 = fitN v.k v.s v.l.length), ?_, ?_⟩
 rotate_left
 ·rintro ⟨o, g⟩ _ ⟨rfl, ho, hg⟩
  dsimp only at ho hg ⊢
  subst ho
  refine bxL hb1 ?_
  refine ⟨fun y H' => ∃ i : Nat, y.2.2 = (i : Int) ∧ i ≤ v.l.length ∧ H.le H' ∧ y.1 = (okN v.k v.n v.s v.l.length && formVs (v.l.take i)) ∧ (y.1 = true → y.2.1 = (fitN v.k v.s v.l.length && fitsVs (v.l.take i))), fun y _ => v.l.length - y.2.2.toNat, ⟨0, rfl, Nat.zero_le _, hle1, by simp [formVs], fun h => by simp [fitsVs, hg h]⟩, ?_⟩
  rintro ⟨f, g', y⟩ H2 ⟨i, hy, hi, hle, h1, h2⟩
  dsimp only at hy h1 h2
  subst hy
  dsimp only
  rw [hl]
  refine ift.of (fun h => ?_) (fun h => ?_)
  ·have hlt : i < v.l.length := by have := of_decide_eq_true h; omega
   have hmem := List.getElem_mem hlt
   refine hr.ld hle rfl hlt fun z hz => ?_
   intro b20 n20
   refine ⟨_, Heap.put_same .., by simp [T_api_Value.c], ?_⟩
   rw [Heap.put_put]
   have esp : splice (T_api_Value.c T_api_Value.zero) (b20, 0).2 (T_api_Value.c z) = T_api_Value.c z := rfl
   rw [esp]
   have hle2 := hle.trans (Heap.le_put n20 (g := .row (T_api_Value.c z)) (m := true))
   refine bxV (Heap.put_same ..) ?_
   refine ih _ hmem (hz.le hle2) (hB.at hlt) fun q hq => ?_
   rw [w_i64 (by omega) (by omega)]
   refine ⟨⟨i + 1, by omega, by omega, hle2, ?_, fun hh => ?_⟩, by first | omega | (dsimp only; omega)⟩
   ·rw [h1, formVs_take hlt, Bool.and_assoc]
   ·rw [Bool.and_eq_true] at hh
    rw [h2 hh.1, fitsVs_take hlt, hq hh.2, Bool.and_assoc]
  ·have hie : i = v.l.length := by have := of_decide_eq_false h; omega
   subst hie
   rw [List.take_length] at h1 h2
   rw [← formV_eq] at h1
   rw [← fitsV_eq] at h2
   refine ⟨H, Gh.le hle, ?_⟩
   rw [h1] at h2 ⊢
   exact k g' h2
 refine bxK hb1 ?_
 rw [hk]
 refine ift.of (fun h => ?_) (fun h => ?_)
 ·have h : v.k = 1 := by simpa using h
  have eo : okN v.k v.n v.s v.l.length = ((v.n == 0 || v.n == 1) && v.s.isEmpty && decide (v.l.length = 0)) := by rw [h]; rfl
  have ef : fitN v.k v.s v.l.length = true := by rw [h]; rfl
  rw [eo, ef]
  refine bxN hb1 ?_
  refine ⟨fun b H' => H1 = H' ∧ b = (v.n == 0 || v.n == 1), ?_, ?_⟩
  ·rw [hn]
   refine ift.of (fun h => ⟨rfl, by rw [h]; rfl⟩) (fun h => ?_)
   refine bxN hb1 ⟨rfl, ?_⟩
   rw [h, hn]; rfl
  rintro _ _ ⟨rfl, rfl⟩
  refine ⟨fun b H' => H1 = H' ∧ b = ((v.n == 0 || v.n == 1) && v.s.isEmpty), ?_, ?_⟩
  ·refine ift.of (fun h => ?_) (fun h => ⟨rfl, by rw [h]; rfl⟩)
   refine bxS hb1 ⟨rfl, ?_⟩
   rw [h, ht, sEmpty]; rfl
  rintro _ _ ⟨rfl, rfl⟩
  refine ⟨fun b H' => H1 = H' ∧ b = ((v.n == 0 || v.n == 1) && v.s.isEmpty && decide (v.l.length = 0)), ?_, ?_⟩
  ·refine ift.of (fun h => ?_) (fun h => ⟨rfl, by rw [h]; rfl⟩)
   refine bxL hb1 ⟨rfl, ?_⟩
   rw [h]; exact lenZ hl 0
  rintro _ _ ⟨rfl, rfl⟩
  exact ⟨rfl, rfl, fun _ => rfl⟩
 have g1 : v.k ≠ 1 := by simpa using h
 refine ift.of (fun h => ?_) (fun h => ?_)
 ·have h : v.k = 2 := by simpa using h
  have eo : okN v.k v.n v.s v.l.length = (v.s.isEmpty && decide (v.l.length = 0)) := by rw [h]; rfl
  have ef : fitN v.k v.s v.l.length = true := by rw [h]; rfl
  rw [eo, ef]
  refine bxS hb1 ?_
  refine ⟨fun b H' => H1 = H' ∧ b = (v.s.isEmpty && decide (v.l.length = 0)), ?_, ?_⟩
  ·rw [ht, sEmpty]
   refine ift.of (fun h => ?_) (fun h => ⟨rfl, by rw [h]; rfl⟩)
   refine bxL hb1 ⟨rfl, ?_⟩
   rw [h]; exact lenZ hl 0
  rintro _ _ ⟨rfl, rfl⟩
  exact ⟨rfl, rfl, fun _ => rfl⟩
 have g2 : v.k ≠ 2 := by simpa using h
 refine ift.of (fun h => ?_) (fun h => ?_)
 ·have h : v.k = 3 := by simpa using h
  have eo : okN v.k v.n v.s v.l.length = (numS v.s && v.n == 0 && decide (v.l.length = 0)) := by rw [h]; rfl
  have ef : fitN v.k v.s v.l.length = decide (digits v.s ≤ 200) := by rw [h]; rfl
  rw [eo, ef]
  refine bxS hb1 ?_
  rw [ht]
  refine value_number_ok hbs ?_
  refine ⟨fun b H' => H1 = H' ∧ b = (numS v.s && v.n == 0), ?_, ?_⟩
  ·refine ift.of (fun h => ?_) (fun h => ⟨rfl, by rw [h]; rfl⟩)
   refine bxN hb1 ⟨rfl, ?_⟩
   rw [h, hn]; rfl
  rintro _ _ ⟨rfl, rfl⟩
  refine ⟨fun b H' => H1 = H' ∧ b = (numS v.s && v.n == 0 && decide (v.l.length = 0)), ?_, ?_⟩
  ·refine ift.of (fun h => ?_) (fun h => ⟨rfl, by rw [h]; rfl⟩)
   refine bxL hb1 ⟨rfl, ?_⟩
   rw [h]; exact lenZ hl 0
  rintro _ _ ⟨rfl, rfl⟩
  refine ⟨rfl, rfl, fun hh => ?_⟩
  dsimp only at hh ⊢
  simp only [Bool.and_eq_true] at hh
  rw [hh.1.1, if_pos rfl, decide_eq_decide]; omega
 have g3 : v.k ≠ 3 := by simpa using h
 refine ift.of (fun h => ?_) (fun h => ?_)
 ·have h : v.k = 4 := by simpa using h
  have eo : okN v.k v.n v.s v.l.length = (v.n == 0 && decide (v.l.length = 0)) := by rw [h]; rfl
  have ef : fitN v.k v.s v.l.length = decide (v.s.length ≤ 4096) := by rw [h]; rfl
  rw [eo, ef]
  have ed : decide ((v.s.length : Int) ≤ 4096) = decide (v.s.length ≤ 4096) := by rw [decide_eq_decide]; omega
  refine ⟨fun b H' => H1 = H' ∧ b = ((v.n == 0 && decide (v.l.length = 0)), decide (v.s.length ≤ 4096)), ?_, ?_⟩
  ·refine ⟨H1, Heap.le.refl _, bxN hb1 (bxS hb1 ?_)⟩
   rw [hn, ht, ed]
   refine ift.of (fun h => ?_) (fun h => ⟨rfl, by rw [h]; rfl⟩)
   refine bxL hb1 ⟨rfl, ?_⟩
   rw [h, show ((x.L.len : Int) == 0) = decide (v.l.length = 0) from lenZ hl 0]; rfl
  rintro _ _ ⟨rfl, rfl⟩
  exact ⟨rfl, rfl, fun _ => rfl⟩
 have g4 : v.k ≠ 4 := by simpa using h
 refine ift.of (fun h => ?_) (fun h => ?_)
 ·have h : v.k = 5 := by simpa using h
  have eo : okN v.k v.n v.s v.l.length = (v.n == 0 && v.s.isEmpty && decide (v.l.length ≠ 1)) := by rw [h]; rfl
  have ef : fitN v.k v.s v.l.length = decide (v.l.length ≤ 16) := by rw [h]; rfl
  rw [eo, ef]
  have ed : decide ((x.L.len : Int) ≤ 16) = decide (v.l.length ≤ 16) := by rw [decide_eq_decide]; omega
  refine ⟨fun b H' => H1 = H' ∧ b = ((v.n == 0 && v.s.isEmpty && decide (v.l.length ≠ 1)), decide (v.l.length ≤ 16)), ?_, ?_⟩
  ·refine ⟨H1, Heap.le.refl _, bxN hb1 (bxL hb1 ?_)⟩
   rw [hn, ed]
   refine ift.of (fun h => ?_) (fun h => ⟨rfl, by rw [h]; rfl⟩)
   refine bxS hb1 ?_
   rw [ht, sEmpty]
   refine ift.of (fun h2 => ?_) (fun h2 => ⟨rfl, by rw [h2]; simp⟩)
   refine bxL hb1 ⟨rfl, ?_⟩
   rw [h, h2, bne, show ((x.L.len : Int) == 1) = decide (v.l.length = 1) from lenZ hl 1, decide_not]; rfl
  rintro _ _ ⟨rfl, rfl⟩
  exact ⟨rfl, rfl, fun _ => rfl⟩
 have g5 : v.k ≠ 5 := by simpa using h
 refine ift.of (fun h => ?_) (fun h => ?_)
 ·have h : v.k = 6 := by simpa using h
  have eo : okN v.k v.n v.s v.l.length = (v.n == 0 && namesS v.s) := by rw [h]; rfl
  have ef : fitN v.k v.s v.l.length = decide (v.l.length ≤ 8) := by rw [h]; rfl
  rw [eo, ef]
  have ed : decide ((x.L.len : Int) ≤ 8) = decide (v.l.length ≤ 8) := by rw [decide_eq_decide]; omega
  refine bxS hb1 ?_
  rw [ht]
  refine cutDot_ok hbs ?_
  have key : ∀ (a b : Str) (two : Bool), a.length ≤ 140737488355328 → b.length ≤ 140737488355328 → namesS v.s = (if two then nameS a && nameS b else nameS a && !decide (v.s = trueS) && !decide (v.s = falseS)) →
   jn (α := Bool × Bool) (fun x118 H119 => H1 = H119 ∧ x118.1 = (v.n == 0 && namesS v.s) ∧ (x118.1 = true → x118.2 = decide (v.l.length ≤ 8)))
    (fun J117 => dr H1 fun Hs121 =>
    ldI Hs121 .i64 ((b1, 0).1, (b1, 0).2 + 1) fun x123 =>
    ldL Hs121 ((b1, 0).1, (b1, 0).2 + 3) fun x125 =>
    ift ((x123 : Int) == 0)
    (c_value_name C a (fun r129 H130 =>
    Heap.le Hs121 H130 ∧
    ift r129
    (ift two
    (c_value_name C b (fun r134 H135 =>
    Heap.le Hs121 H135 ∧
    ift r134
    (J117 (true, (decide (((Sl.len x125 : Int) : Int) ≤ 8))) H135)
    (ift (!two)
    (ldS Hs121 ((b1, 0).1, (b1, 0).2 + 2) fun x138 =>
    ift (!(x138 == ([116, 114, 117, 101] : Str)))
    (ldS Hs121 ((b1, 0).1, (b1, 0).2 + 2) fun x141 =>
    J117 ((!(x141 == ([102, 97, 108, 115, 101] : Str))), (decide (((Sl.len x125 : Int) : Int) ≤ 8))) H135)
    (J117 (false, (decide (((Sl.len x125 : Int) : Int) ≤ 8))) H135))
    (J117 (false, (decide (((Sl.len x125 : Int) : Int) ≤ 8))) H135))) H130)
    (ift (!two)
    (ldS Hs121 ((b1, 0).1, (b1, 0).2 + 2) fun x144 =>
    ift (!(x144 == ([116, 114, 117, 101] : Str)))
    (ldS Hs121 ((b1, 0).1, (b1, 0).2 + 2) fun x147 =>
    J117 ((!(x147 == ([102, 97, 108, 115, 101] : Str))), (decide (((Sl.len x125 : Int) : Int) ≤ 8))) H130)
    (J117 (false, (decide (((Sl.len x125 : Int) : Int) ≤ 8))) H130))
    (J117 (false, (decide (((Sl.len x125 : Int) : Int) ≤ 8))) H130)))
    (J117 (false, (decide (((Sl.len x125 : Int) : Int) ≤ 8))) H130)) H1)
    (J117 (false, (decide (((Sl.len x125 : Int) : Int) ≤ 8))) H1)) := by
   intro a b two ha hb hns
   refine ⟨fun y H' => H1 = H' ∧ y = ((v.n == 0 && namesS v.s), decide (v.l.length ≤ 8)), ?_, ?_⟩
   ·refine ⟨H1, Heap.le.refl _, bxN hb1 (bxL hb1 ?_)⟩
    rw [hn, ed]
    refine ift.of (fun h => ?_) (fun h => ⟨rfl, by rw [h]; rfl⟩)
    refine value_name_ok ha ⟨Heap.le.refl _, ?_⟩
    rw [h, hns]
    refine ift.of (fun h2 => ?_) (fun h2 => ⟨rfl, by rw [h2]; cases two <;> rfl⟩)
    rw [h2]
    have eq : ∀ t : Str, (v.s == t) = decide (v.s = t) := fun t => by rw [Bool.eq_iff_iff]; simp
    cases two with
    | true =>
     refine ift_pos rfl ?_
     refine value_name_ok hb ⟨Heap.le.refl _, ?_⟩
     exact ift.of (fun h3 => ⟨rfl, by rw [h3]; rfl⟩) (fun h3 => ift_neg rfl ⟨rfl, by rw [h3]; rfl⟩)
    | false =>
     refine ift_neg rfl (ift_pos rfl ?_)
     refine bxS hb1 ?_
     rw [ht, show (v.s == ([116, 114, 117, 101] : Str)) = decide (v.s = trueS) from eq _]
     refine ift.of (fun h3 => ?_) (fun h3 => ⟨rfl, ?_⟩)
     ·refine bxS hb1 ⟨rfl, ?_⟩
      rw [ht, show (v.s == ([102, 97, 108, 115, 101] : Str)) = decide (v.s = falseS) from eq _, h3]; rfl
     ·rw [h3]; rfl
   ·rintro _ _ ⟨rfl, rfl⟩
    exact ⟨rfl, rfl, fun _ => rfl⟩
  have hc := names_cut v.s
  cases hcd : cutD v.s with
  | none =>
   rw [hcd] at hc
   exact key _ _ _ hbs (by simp) hc
  | some p =>
   obtain ⟨a, b⟩ := p
   rw [hcd] at hc
   have hlen : a.length ≤ v.s.length ∧ b.length ≤ v.s.length := by
    by_cases hm : (46 : UInt8) ∈ v.s
    ·obtain ⟨a', b', e1, e2⟩ := cutD_mem _ hm
     have := cutD_at a' b' e2
     rw [← e1, hcd] at this
     injection this with this; injection this with h1 h2
     subst h1; subst h2
     rw [e1]; simp; omega
    ·rw [cutD_no _ hm] at hcd; cases hcd
   exact key _ _ _ (by omega) (by omega) hc
 have g6 : v.k ≠ 6 := by simpa using h
 have eo : okN v.k v.n v.s v.l.length = false := by unfold okN; rw [if_neg g1, if_neg g2, if_neg g3, if_neg g4, if_neg g5, if_neg g6]
 rw [eo]
 exact ⟨rfl, rfl, fun hh => by cases hh⟩
theorem value_Check_ok {v : V} {x : TV} {H : Heap} {K : Int → Heap → Prop} (hv : VIs H v x) (hB : VB v) (k : K (checkV v) H) : c_value_Check C x K H := by
 apply c_value_Check.gh
 apply ad_value_Check
 unfold sh_value_Check
 intro b1 n1
 have hb1 : (H.put b1 (.row (T_api_Value.c x))) b1 = some (true, .row (T_api_Value.c x)) := Heap.put_same ..
 have hle1 := Heap.le_put n1 (g := .row (T_api_Value.c x)) (m := true)
 generalize H.put b1 (.row (T_api_Value.c x)) = H1 at *
 unfold checkV at k
 refine bxV hb1 (value_depth_ok (m := 65) (hv.le hle1) hB (by omega) fun r h0 h1 h2 => ?_)
 refine ift.of (fun h => ?_) (fun h => ?_)
 ·have h := of_decide_eq_true h
  rw [if_pos (by omega)] at k
  exact ⟨H, Gh.le hle1, k⟩
 have h := of_decide_eq_false h
 rw [if_neg (by omega)] at k
 refine bxV hb1 (look_ok (hv.le hle1) hB fun g hg => ?_)
 refine ift.of (fun h => ?_) (fun h => ?_)
 ·have h : formV v = false := by simpa using h
  rw [if_pos h] at k
  exact ⟨H, Gh.le hle1, k⟩
 have hf : formV v = true := by simpa using h
 rw [if_neg (by rw [hf]; decide)] at k
 rw [hg hf]
 refine ift.of (fun h => ?_) (fun h => ?_)
 ·have h : fitsV v = false := by simpa using h
  rw [if_pos h] at k
  exact ⟨H, Gh.le hle1, k⟩
 have hf : fitsV v = true := by simpa using h
 rw [if_neg (by rw [hf]; decide)] at k
 exact ⟨H, Gh.le hle1, k⟩
end
end Sx
end

noncomputable section
set_option linter.unusedVariables false
set_option linter.unusedSimpArgs false
set_option maxRecDepth 10000
namespace Sx
open Go Go.Proofs
theorem vcmpS_nil_l (t : Str) : vcmpS [] t = sgn 0 t.length := by
 cases t with
 | nil => rfl
 | cons c t => unfold vcmpS sgn; rw [if_pos (by simp <;> omega)]
theorem vcmpS_nil_r (t : Str) : vcmpS t [] = sgn t.length 0 := by
 cases t with
 | nil => rfl
 | cons c t => unfold vcmpS sgn; rw [if_neg (by simp <;> omega), if_pos (by simp <;> omega)]
theorem sgn_add (a b : Int) (i : Int) : sgn (a + i) (b + i) = sgn a b := by
 unfold sgn
 by_cases h : a < b
 ·rw [if_pos h, if_pos (by omega)]
 ·rw [if_neg h, if_neg (by omega)]
  by_cases h2 : b < a
  ·rw [if_pos h2, if_pos (by omega)]
  ·rw [if_neg h2, if_neg (by omega)]
theorem cmpVs_nil_l (t : List V) : cmpVs [] t = sgn 0 t.length := by
 cases t with
 | nil => simp [cmpVs, sgn]
 | cons c t => simp only [cmpVs]; unfold sgn; rw [if_pos (by simp <;> omega)]
theorem cmpVs_nil_r (t : List V) : cmpVs t [] = sgn t.length 0 := by
 cases t with
 | nil => simp [cmpVs, sgn]
 | cons c t => simp only [cmpVs]; unfold sgn; rw [if_neg (by simp <;> omega), if_pos (by simp <;> omega)]
theorem numS_isMin {s : Str} (h : numS s = true) (hm : isMin s = true) : isMin s.tail = false ∧ s.tail ≠ [] := by
 cases s with
 | nil => simp [isMin] at hm
 | cons c t =>
  have hc : c = 45 := by simpa [isMin] using hm
  subst hc
  cases t with
  | nil => simp [numS, unmin] at h
  | cons d u =>
   refine ⟨?_, by simp⟩
   simp only [numS, unmin, List.head?_cons, if_true, List.tail_cons, Bool.and_eq_true, List.all_cons] at h
   have hd := h.1.2.1
   unfold isMin
   simp only [List.tail_cons, List.head?_cons, Option.some.injEq, decide_eq_false_iff_not]
   rintro rfl
   simp [digC] at hd
theorem cmpB_no {a b : Str} (ha : isMin a = false) (hb : isMin b = false) : cmpB a b = cmpD a b := by unfold cmpB; rw [ha, hb]; rfl
theorem numS_ne {s : Str} (h : numS s = true) : s ≠ [] := fun e => by subst e; simp [numS, unmin] at h
section
variable {C : Ctx} {H : Heap}
theorem ints_ok {a b : Int} {K : Int → Heap → Prop} (k : K (sgn a b) H) : c_ref02_ints C a b K H := by
 apply ad_ref02_ints
 unfold sh_ref02_ints
 unfold sgn at k
 refine ift.of (fun h => ?_) (fun h => ?_)
 ·rw [if_pos (of_decide_eq_true h)] at k; exact k
 rw [if_neg (of_decide_eq_false h)] at k
 refine ift.of (fun h => ?_) (fun h => ?_)
 ·rw [if_pos (of_decide_eq_true h)] at k; exact k
 ·rw [if_neg (of_decide_eq_false h)] at k; exact k
theorem texts_ok {a b : Str} {K : Int → Heap → Prop} (ha : a.length ≤ 140737488355328) (hb : b.length ≤ 140737488355328) (k : K (vcmpS a b) H) : c_ref02_texts C a b K H := by
 apply ad_ref02_texts
 unfold sh_ref02_texts
 refine ⟨fun x H' => ∃ i : Nat, x = (i : Int) ∧ i ≤ a.length ∧ i ≤ b.length ∧ H = H' ∧ vcmpS a b = vcmpS (a.drop i) (b.drop i), fun x _ => a.length - x.toNat, ⟨0, rfl, Nat.zero_le _, Nat.zero_le _, rfl, rfl⟩, ?_⟩
 rintro x _ ⟨i, rfl, hi, hi2, rfl, hc⟩
 refine ift.of (fun h => ?_) (fun h => ?_)
 ·simp only [Bool.and_eq_true, decide_eq_true_eq] at h
  have h1 : i < a.length := by omega
  have h2 : i < b.length := by omega
  rw [List.drop_eq_getElem_cons h1, List.drop_eq_getElem_cons h2] at hc
  have g1 := getE h1
  have g2 := getE h2
  generalize a[i] = c at *
  generalize b[i] = d at *
  refine ⟨c, by omega, g1, d, by omega, g2, ?_⟩
  have hcl : c.toNat < 256 := c.toBitVec.isLt
  have hdl : d.toNat < 256 := d.toBitVec.isLt
  refine ift.of (fun h => ?_) (fun h => ?_)
  ·have hne : c ≠ d := fun e => by subst e; simp at h
   simp only [vcmpS, if_neg hne] at hc
   refine ⟨H, Heap.le.refl _, c, by omega, g1, d, by omega, g2, ?_⟩
   dsimp only
   rw [w_i64 (by omega) (by omega), w_i64 (by omega) (by omega)]
   refine ints_ok ⟨Heap.le.refl _, ?_⟩
   rw [hc] at k; exact k
  ·have he : c = d := UInt8.toNat_inj.1 (by simp at h; omega)
   simp only [vcmpS, if_pos he] at hc
   rw [w_i64 (by omega) (by omega)]
   exact ⟨⟨i + 1, by omega, by omega, by omega, rfl, hc⟩, by first | omega | (dsimp only; omega)⟩
 ·simp only [Bool.and_eq_false_iff, decide_eq_false_iff_not] at h
  refine ints_ok ?_
  have e : vcmpS a b = sgn a.length b.length := by
   rcases h with h | h
   ·have : i = a.length := by omega
    subst this
    rw [hc, List.drop_length, vcmpS_nil_l, List.length_drop]
    have := sgn_add 0 ((b.length - a.length : Nat) : Int) a.length
    rw [← this]; congr 1 <;> omega
   ·have : i = b.length := by omega
    subst this
    rw [hc, List.drop_length, vcmpS_nil_r, List.length_drop]
    have := sgn_add ((a.length - b.length : Nat) : Int) 0 b.length
    rw [← this]; congr 1 <;> omega
  rw [e] at k; exact k
theorem isMin_eq {c : UInt8} {t : Str} : ((c.toNat : Int) == 45) = isMin (c :: t) := by rw [e45]; unfold isMin; simp
theorem bigs0_ok {a b : Str} {K : Int → Heap → Prop} (ha : a.length ≤ 140737488355328) (hb : b.length ≤ 140737488355328) (na : a ≠ []) (nb : b ≠ []) (ma : isMin a = false) (mb : isMin b = false) (k : K (cmpD a b) H) : c_ref02_Bigs C a b K H := by
 apply ad_ref02_Bigs
 unfold sh_ref02_Bigs
 cases a with
 | nil => exact absurd rfl na
 | cons c a =>
 cases b with
 | nil => exact absurd rfl nb
 | cons d b =>
 refine ⟨c, by omega, rfl, d, by omega, rfl, ?_⟩
 dsimp only
 rw [isMin_eq (t := a), isMin_eq (t := b), ma, mb]
 refine ift_neg rfl (ift_neg rfl ?_)
 unfold cmpD at k
 refine ift.of (fun h => ?_) (fun h => ?_)
 ·refine ints_ok ?_
  rw [if_neg (by simp at h ⊢; omega)] at k; exact k
 ·rw [if_pos (by simp at h ⊢; omega)] at k
  exact texts_ok ha hb k
theorem bigs_ok {a b : Str} {K : Int → Heap → Prop} (ha : a.length ≤ 140737488355328) (hb : b.length ≤ 140737488355328) (na : numS a = true) (nb : numS b = true) (k : K (cmpB a b) H) : c_ref02_Bigs C a b K H := by
 by_cases hn : isMin a = false ∧ isMin b = false
 ·rw [cmpB_no hn.1 hn.2] at k
  exact bigs0_ok ha hb (numS_ne na) (numS_ne nb) hn.1 hn.2 k
 apply ad_ref02_Bigs
 unfold sh_ref02_Bigs
 have nea := numS_ne na
 have neb := numS_ne nb
 cases a with
 | nil => exact absurd rfl nea
 | cons c a =>
 cases b with
 | nil => exact absurd rfl neb
 | cons d b =>
 refine ⟨c, by omega, rfl, d, by omega, rfl, ?_⟩
 dsimp only
 rw [isMin_eq (t := a), isMin_eq (t := b)]
 unfold cmpB at k
 cases ma : isMin (c :: a) with
 | false =>
  rw [ma] at k hn
  cases mb : isMin (d :: b) with
  | false => rw [mb] at hn; exact absurd ⟨rfl, rfl⟩ hn
  | true => rw [mb] at k; exact ift_pos rfl (ift_neg rfl k)
 | true =>
  rw [ma] at k
  cases mb : isMin (d :: b) with
  | false => rw [mb] at k; exact ift_pos rfl (ift_pos rfl k)
  | true =>
   rw [mb] at k
   refine ift_neg rfl (ift_pos rfl ?_)
   obtain ⟨h1, h2⟩ := numS_isMin na ma
   obtain ⟨h3, h4⟩ := numS_isMin nb mb
   refine ⟨H, Heap.le.refl _, by omega, by simp only [List.length_cons]; omega, by omega, b, ?_, by omega, by simp only [List.length_cons]; omega, by omega, a, ?_, ?_⟩
   ·rw [List.take_of_length_le (by omega)]; rfl
   ·rw [List.take_of_length_le (by omega)]; rfl
   ·simp only [List.length_cons] at ha hb
    exact bigs0_ok (by omega) (by omega) h4 h2 h3 h1 ⟨Heap.le.refl _, k⟩
theorem rows_ok {l m : List V} {s t : Sl} {H : Heap} {K : Int → Heap → Prop} (hs : VRow H s l) (ht : VRow H t m) (hl : l.length ≤ 140737488355328) (hm : m.length ≤ 140737488355328)
 (ih : ∀ v ∈ l, ∀ w ∈ m, ∀ {x y : TV} {K : Int → Heap → Prop}, VIs H v x → VIs H w y → K (cmpV v w) H → c_ref02_cmp C x y K H) (k : K (cmpVs l m) H) : c_ref02_rows C s t K H := by
 apply ad_ref02_rows
 unfold sh_ref02_rows
 have hsl := hs.len
 have htl := ht.len
 rw [hsl, htl]
 refine ⟨fun x H' => ∃ i : Nat, x = (i : Int) ∧ i ≤ l.length ∧ i ≤ m.length ∧ H = H' ∧ cmpVs l m = cmpVs (l.drop i) (m.drop i), fun x _ => l.length - x.toNat, ⟨0, rfl, Nat.zero_le _, Nat.zero_le _, rfl, rfl⟩, ?_⟩
 rintro x _ ⟨i, rfl, hi, hi2, rfl, hc⟩
 refine ift.of (fun h => ?_) (fun h => ?_)
 ·simp only [Bool.and_eq_true, decide_eq_true_eq] at h
  have h1 : i < l.length := by omega
  have h2 : i < m.length := by omega
  have m1 := List.getElem_mem h1
  have m2 := List.getElem_mem h2
  rw [List.drop_eq_getElem_cons h1, List.drop_eq_getElem_cons h2] at hc
  refine ⟨H, Heap.le.refl _, ?_⟩
  refine hs.ld (Heap.le.refl _) rfl h1 fun y hy => ?_
  refine ht.ld (Heap.le.refl _) rfl h2 fun z hz => ?_
  refine ih _ m1 _ m2 hy hz ⟨Heap.le.refl _, ?_⟩
  simp only [cmpVs] at hc
  refine ift.of (fun h => ?_) (fun h => ?_)
  ·rw [if_pos (by simpa using h)] at hc
   rw [hc] at k; exact k
  ·rw [if_neg (by simpa using h)] at hc
   rw [w_i64 (by omega) (by omega)]
   exact ⟨⟨i + 1, by omega, by omega, by omega, rfl, hc⟩, by first | omega | (dsimp only; omega)⟩
 ·simp only [Bool.and_eq_false_iff, decide_eq_false_iff_not] at h
  refine ints_ok ?_
  have e : cmpVs l m = sgn l.length m.length := by
   rcases h with h | h
   ·have : i = l.length := by omega
    subst this
    rw [hc, List.drop_length, cmpVs_nil_l, List.length_drop]
    have := sgn_add 0 ((m.length - l.length : Nat) : Int) l.length
    rw [← this]; congr 1 <;> omega
   ·have : i = m.length := by omega
    subst this
    rw [hc, List.drop_length, cmpVs_nil_r, List.length_drop]
    have := sgn_add ((l.length - m.length : Nat) : Int) 0 m.length
    rw [← this]; congr 1 <;> omega
  rw [e] at k; exact k
theorem cmpV_eq (v w : V) : cmpV v w = if v.k ≠ w.k then sgn v.k w.k else if v.k = 3 then cmpB v.s w.s else if v.k = 4 then vcmpS v.s w.s else if v.k = 5 then cmpVs v.l w.l else if v.k = 6 then (if vcmpS v.s w.s ≠ 0 then vcmpS v.s w.s else cmpVs v.l w.l) else sgn v.n w.n := by
 obtain ⟨k, n, s, l⟩ := v
 obtain ⟨k', n', s', l'⟩ := w
 simp only [cmpV, V.k, V.n, V.s, V.l]
 rfl
theorem cmp_ok {v w : V} {x y : TV} {H : Heap} {K : Int → Heap → Prop} (hv : VIs H v x) (hw : VIs H w y) (hB : VB v) (hB2 : VB w) (hF : formV v = true) (hF2 : formV w = true) (k : K (cmpV v w) H) : c_ref02_cmp C x y K H := by
 refine V.rec_ (P := fun v => ∀ {w x y H} {K : Int → Heap → Prop}, VIs H v x → VIs H w y → VB v → VB w → formV v = true → formV w = true → K (cmpV v w) H → c_ref02_cmp C x y K H) (fun v ih => ?_) v hv hw hB hB2 hF hF2 k
 clear hv hw hB hB2 hF hF2 k
 intro w x y H K hv hw hB hB2 hF hF2 k
 apply c_ref02_cmp.gh
 apply ad_ref02_cmp
 unfold sh_ref02_cmp
 intro b1 n1 b3 n3
 have hb3 : ((H.put b1 (.row (T_api_Value.c x))).put b3 (.row (T_api_Value.c y))) b3 = some (true, .row (T_api_Value.c y)) := Heap.put_same ..
 have hne : b1 ≠ b3 := fun e => by rw [e, Heap.put_same] at n3; cases n3
 have hb1 : ((H.put b1 (.row (T_api_Value.c x))).put b3 (.row (T_api_Value.c y))) b1 = some (true, .row (T_api_Value.c x)) := by rw [Heap.put_ne _ _ _ hne, Heap.put_same]
 have hle := (Heap.le_put n1 (g := .row (T_api_Value.c x)) (m := true)).trans (Heap.le_put n3 (g := .row (T_api_Value.c y)) (m := true))
 generalize (H.put b1 (.row (T_api_Value.c x))).put b3 (.row (T_api_Value.c y)) = H1 at *
 have k' : ∃ H0, Gh C H1 H0 ∧ K (cmpV v w) H0 := ⟨H, Gh.le hle, k⟩
 have hk1 := hB.k
 have hk2 := hB2.k
 rw [formV_eq, Bool.and_eq_true] at hF hF2
 rw [cmpV_eq] at k'
 refine bxK hb1 (bxK hb3 ?_)
 rw [hv.kind, hw.kind]
 refine ift.of (fun h => ?_) (fun h => ?_)
 ·refine bxK hb1 (bxK hb3 ?_)
  rw [hv.kind, hw.kind, w_i64 (by omega) (by omega), w_i64 (by omega) (by omega)]
  refine ints_ok ?_
  rw [if_pos (by simpa using h)] at k'; exact k'
 have hkk : v.k = w.k := by simpa using h
 rw [if_neg (by simp [hkk])] at k'
 have hr1 := hv.row.le hle
 have hr2 := hw.row.le hle
 have hrows : ∀ {K : Int → Heap → Prop}, K (cmpVs v.l w.l) H1 → c_ref02_rows C x.L y.L K H1 := fun k => by
  refine rows_ok hr1 hr2 hB.l hB2.l (fun p hp q hq {x' y'} {K'} hx hy kk => ih p hp hx hy (hB.ls.mem hp) (hB2.ls.mem hq) (formVs_mem hp hF.2) (formVs_mem hq hF2.2) kk) k
 refine bxK hb1 ?_
 rw [hv.kind]
 refine ift.of (fun h => ?_) (fun h => ?_)
 ·have h : v.k = 3 := by simpa using h
  rw [if_pos h] at k'
  refine bxS hb1 (bxS hb3 ?_)
  rw [hv.txt, hw.txt]
  exact bigs_ok hB.s hB2.s (okN_num hF.1 h) (okN_num hF2.1 (by omega)) k'
 rw [if_neg (by simpa using h)] at k'
 refine ift.of (fun h => ?_) (fun h => ?_)
 ·have h : v.k = 4 := by simpa using h
  rw [if_pos h] at k'
  refine bxS hb1 (bxS hb3 ?_)
  rw [hv.txt, hw.txt]
  exact texts_ok hB.s hB2.s k'
 rw [if_neg (by simpa using h)] at k'
 refine ift.of (fun h => ?_) (fun h => ?_)
 ·have h : v.k = 5 := by simpa using h
  rw [if_pos h] at k'
  exact bxL hb1 (bxL hb3 (hrows k'))
 rw [if_neg (by simpa using h)] at k'
 refine ift.of (fun h => ?_) (fun h => ?_)
 ·have h : v.k = 6 := by simpa using h
  rw [if_pos h] at k'
  refine bxS hb1 (bxS hb3 ?_)
  rw [hv.txt, hw.txt]
  refine texts_ok hB.s hB2.s ?_
  refine ift.of (fun h => ?_) (fun h => ?_)
  ·rw [if_pos (by simpa using h)] at k'; exact k'
  ·rw [if_neg (by simpa using h)] at k'
   exact bxL hb1 (bxL hb3 (hrows k'))
 rw [if_neg (by simpa using h)] at k'
 refine bxN hb1 (bxN hb3 ?_)
 rw [hv.num, hw.num]
 exact ints_ok k'
theorem last_ok {a b : Bool} {K : Int → Heap → Prop} (k : K (lastB a b) H) : c_ref02_last C a b K H := by
 apply ad_ref02_last
 unfold sh_ref02_last
 unfold lastB at k
 refine ift.of (fun h => ?_) (fun h => ?_)
 ·rw [if_pos (by simpa using h)] at k; exact k
 rw [if_neg (by simpa using h)] at k
 refine ift.of (fun h => ?_) (fun h => ?_)
 ·rw [if_pos h] at k; exact k
 ·rw [if_neg (by rw [h]; decide)] at k; exact k
theorem mayV_dec (v : V) : ((checkV v : Int) == 0) = mayV v := by unfold mayV; rw [Bool.eq_iff_iff]; simp
theorem mayV_form {v : V} (h : mayV v = true) : formV v = true := ((mayV_iff v).1 h).2.1
theorem mayR_no {l : List V} {v : V} (h : v ∈ l) (hv : mayV v = false) : mayR l = false := by unfold mayR; rw [List.all_eq_false]; exact ⟨v, h, by simp [hv]⟩
theorem Row_ok {l : List V} {t : Sl} {H : Heap} {K : Bool → Heap → Prop} (ht : VRow H t l) (hl : l.length ≤ 140737488355328) (hB : VBs l) (hs : ∀ v ∈ l, vsize v ≤ 4611686018427387904) (k : K (mayR l) H) : c_ref02_Row C t K H := by
 apply ad_ref02_Row
 unfold sh_ref02_Row
 rw [ht.len]
 refine ⟨fun x H' => ∃ i : Nat, x = (i : Int) ∧ i ≤ l.length ∧ H = H' ∧ (l.take i).all mayV = true, fun x _ => l.length - x.toNat, ⟨0, rfl, Nat.zero_le _, rfl, rfl⟩, ?_⟩
 rintro x _ ⟨i, rfl, hi, rfl, ha⟩
 refine ift.of (fun h => ?_) (fun h => ?_)
 ·have hlt : i < l.length := by have := of_decide_eq_true h; omega
  have hm := List.getElem_mem hlt
  refine ht.ld (Heap.le.refl _) rfl hlt fun y hy => ?_
  refine ref02_Check_ok hy (hB.mem hm) (hs _ hm) ?_
  rw [bne, mayV_dec]
  refine ift.of (fun h => ?_) (fun h => ?_)
  ·rw [mayR_no hm (by simpa using h)] at k; exact k
  ·rw [w_i64 (by omega) (by omega)]
   refine ⟨⟨i + 1, by omega, by omega, rfl, ?_⟩, by first | omega | (dsimp only; omega)⟩
   rw [all_take hlt, ha]; simpa using h
 ·have hie : i = l.length := by have := of_decide_eq_false h; omega
  rw [hie, List.take_length] at ha
  unfold mayR at k
  rw [ha] at k; exact k
theorem ref02_CmpRows_ok {l m : List V} {s t : Sl} {H : Heap} {K : Int → Heap → Prop} (hs : VRow H s l) (ht : VRow H t m) (hl : l.length ≤ 140737488355328) (hm : m.length ≤ 140737488355328) (hB : VBs l) (hB2 : VBs m) (hz : ∀ v ∈ l, vsize v ≤ 4611686018427387904) (hz2 : ∀ v ∈ m, vsize v ≤ 4611686018427387904) (k : K (cmpR l m) H) : c_ref02_CmpRows C s t K H := by
 apply ad_ref02_CmpRows
 unfold sh_ref02_CmpRows
 refine Row_ok hs hl hB hz (Row_ok ht hm hB2 hz2 ?_)
 unfold cmpR at k
 refine ift.of (fun h => ?_) (fun h => ?_)
 ·refine last_ok ?_
  rw [if_neg (by intro hh; rw [hh.1, hh.2] at h; cases h)] at k; exact k
 ·have h1 : mayR l = true ∧ mayR m = true := by simpa using h
  rw [if_pos h1] at k
  refine rows_ok hs ht hl hm (fun p hp q hq {x' y'} {K'} hx hy kk => ?_) k
  have e1 := List.all_eq_true.1 h1.1 p hp
  have e2 := List.all_eq_true.1 h1.2 q hq
  exact cmp_ok hx hy (hB.mem hp) (hB2.mem hq) (mayV_form e1) (mayV_form e2) kk
theorem sameVs_len : ∀ {l m : List V}, sameVs l m = true → l.length = m.length
 | [], [], _ => rfl
 | [], _ :: _, h => by simp [sameVs] at h
 | _ :: _, [], h => by simp [sameVs] at h
 | v :: l, w :: m, h => by
  simp only [sameVs, Bool.and_eq_true] at h
  have := sameVs_len h.2
  simp [this]
theorem SameRow_gen {l m : List V} {s t : Sl} {H : Heap} {K : Bool → Heap → Prop} (hs : VRow H s l) (ht : VRow H t m) (hl : l.length ≤ 140737488355328)
 (ih : ∀ v ∈ l, ∀ w, ∀ {x y : TV} {K : Bool → Heap → Prop}, VIs H v x → VIs H w y → w ∈ m → K (sameV v w) H → c_ref02_Same C x y K H) (k : K (sameVs l m) H) : c_ref02_SameRow C s t K H := by
 apply ad_ref02_SameRow
 unfold sh_ref02_SameRow
 rw [hs.len, ht.len]
 by_cases hlm : l.length = m.length
 rotate_left
 ·refine ift_pos (by simp; omega) ?_
  cases hh : sameVs l m with
  | true => exact absurd (sameVs_len hh) hlm
  | false => rw [hh] at k; exact k
 refine ift_neg (by simp; omega) ?_
 refine ⟨fun x H' => ∃ i : Nat, x = (i : Int) ∧ i ≤ l.length ∧ H = H' ∧ sameVs l m = sameVs (l.drop i) (m.drop i), fun x _ => l.length - x.toNat, ⟨0, rfl, Nat.zero_le _, rfl, rfl⟩, ?_⟩
 rintro x _ ⟨i, rfl, hi, rfl, ha⟩
 refine ift.of (fun h => ?_) (fun h => ?_)
 ·have h1 : i < l.length := by have := of_decide_eq_true h; omega
  have h2 : i < m.length := by omega
  have m1 := List.getElem_mem h1
  have m2 := List.getElem_mem h2
  rw [List.drop_eq_getElem_cons h1, List.drop_eq_getElem_cons h2] at ha
  simp only [sameVs] at ha
  refine ⟨H, Heap.le.refl _, ?_⟩
  refine hs.ld (Heap.le.refl _) rfl h1 fun y hy => ?_
  refine ht.ld (Heap.le.refl _) rfl h2 fun z hz => ?_
  refine ih _ m1 _ hy hz m2 ⟨Heap.le.refl _, ?_⟩
  refine ift.of (fun h => ?_) (fun h => ?_)
  ·have h : sameV l[i] m[i] = false := by simpa using h
   rw [ha, h] at k; exact k
  ·have h : sameV l[i] m[i] = true := by simpa using h
   rw [h, Bool.true_and] at ha
   rw [w_i64 (by omega) (by omega)]
   exact ⟨⟨i + 1, by omega, by omega, rfl, ha⟩, by first | omega | (dsimp only; omega)⟩
 ·have hie : i = l.length := by have := of_decide_eq_false h; omega
  rw [hie, List.drop_length, hlm, List.drop_length] at ha
  rw [ha] at k; exact k
theorem sameV_eqn (v w : V) : sameV v w = (v.k == w.k && v.n == w.n && decide (v.s = w.s) && sameVs v.l w.l) := by
 obtain ⟨k, n, s, l⟩ := v
 obtain ⟨k', n', s', l'⟩ := w
 simp only [sameV, V.k, V.n, V.s, V.l]
 rfl
theorem Same_ok {v w : V} {x y : TV} {H : Heap} {K : Bool → Heap → Prop} (hv : VIs H v x) (hw : VIs H w y) (hB : VB v) (k : K (sameV v w) H) : c_ref02_Same C x y K H := by
 refine V.rec_ (P := fun v => ∀ {w x y H} {K : Bool → Heap → Prop}, VIs H v x → VIs H w y → VB v → K (sameV v w) H → c_ref02_Same C x y K H) (fun v ih => ?_) v hv hw hB k
 clear hv hw hB k
 intro w x y H K hv hw hB k
 apply c_ref02_Same.gh
 apply ad_ref02_Same
 unfold sh_ref02_Same
 intro b1 n1 b3 n3
 have hb3 : ((H.put b1 (.row (T_api_Value.c x))).put b3 (.row (T_api_Value.c y))) b3 = some (true, .row (T_api_Value.c y)) := Heap.put_same ..
 have hne : b1 ≠ b3 := fun e => by rw [e, Heap.put_same] at n3; cases n3
 have hb1 : ((H.put b1 (.row (T_api_Value.c x))).put b3 (.row (T_api_Value.c y))) b1 = some (true, .row (T_api_Value.c x)) := by rw [Heap.put_ne _ _ _ hne, Heap.put_same]
 have hle := (Heap.le_put n1 (g := .row (T_api_Value.c x)) (m := true)).trans (Heap.le_put n3 (g := .row (T_api_Value.c y)) (m := true))
 generalize (H.put b1 (.row (T_api_Value.c x))).put b3 (.row (T_api_Value.c y)) = H1 at *
 have k' : ∃ H0, Gh C H1 H0 ∧ K (sameV v w) H0 := ⟨H, Gh.le hle, k⟩
 rw [sameV_eqn] at k'
 refine bxK hb1 (bxK hb3 ?_)
 rw [hv.kind, hw.kind]
 refine ⟨fun b H' => H1 = H' ∧ b = (v.k == w.k && v.n == w.n), ?_, ?_⟩
 ·refine ift.of (fun h => ?_) (fun h => ⟨rfl, by rw [h]; rfl⟩)
  refine bxN hb1 (bxN hb3 ⟨rfl, ?_⟩)
  rw [h, hv.num, hw.num]; rfl
 rintro _ _ ⟨rfl, rfl⟩
 refine ⟨fun b H' => H1 = H' ∧ b = (v.k == w.k && v.n == w.n && decide (v.s = w.s)), ?_, ?_⟩
 ·refine ift.of (fun h => ?_) (fun h => ⟨rfl, by rw [h]; rfl⟩)
  refine bxS hb1 (bxS hb3 ⟨rfl, ?_⟩)
  rw [h, hv.txt, hw.txt, Bool.true_and, Bool.eq_iff_iff]; simp
 rintro _ _ ⟨rfl, rfl⟩
 refine ⟨fun b H' => H1 = H' ∧ b = (v.k == w.k && v.n == w.n && decide (v.s = w.s) && sameVs v.l w.l), ?_, ?_⟩
 ·refine ift.of (fun h => ?_) (fun h => ⟨rfl, by rw [h]; rfl⟩)
  refine bxL hb1 (bxL hb3 ?_)
  refine SameRow_gen (hv.row.le hle) (hw.row.le hle) hB.l (fun p hp q {x' y'} {K'} hx hy _ kk => ih p hp hx hy (hB.ls.mem hp) kk) ⟨rfl, ?_⟩
  rw [h]; rfl
 rintro _ _ ⟨rfl, rfl⟩
 exact k'
theorem SameRow_ok {l m : List V} {s t : Sl} {H : Heap} {K : Bool → Heap → Prop} (hs : VRow H s l) (ht : VRow H t m) (hl : l.length ≤ 140737488355328) (hB : VBs l) (k : K (sameVs l m) H) : c_ref02_SameRow C s t K H :=
 SameRow_gen hs ht hl (fun p hp q {x y} {K} hx hy _ kk => Same_ok hx hy (hB.mem hp) kk) k
end
end Sx
end

noncomputable section
set_option linter.unusedVariables false
set_option linter.unusedSimpArgs false
namespace Sx
open Go
section
variable {H : Type} {enc : TypeId × Value → H} {P : Program} {W : World}
/-- the type of values -/
structure ValT (P : Program) (t tl : TypeId) : Prop where
 st : ∃ fs : Array Field, P.underlying t = some (.struct fs) ∧ fs.size = 4 ∧ (∃ f tk, fs[0]? = some f ∧ f.type = tk ∧ f.offset = 0 ∧ P.underlying tk = some (.int .u8) ∧ P.cellsOf tk = 1) ∧ (∃ f tk, fs[1]? = some f ∧ f.type = tk ∧ f.offset = 1 ∧ P.underlying tk = some (.int .i64) ∧ P.cellsOf tk = 1) ∧ (∃ f tk, fs[2]? = some f ∧ f.type = tk ∧ f.offset = 2 ∧ P.underlying tk = some .string ∧ P.cellsOf tk = 1) ∧ (∃ f, fs[3]? = some f ∧ f.type = tl ∧ f.offset = 3 ∧ P.cellsOf tl = 1)
 cells : P.cellsOf t = 4
 sl : P.underlying tl = some (.slice t)
end
end Sx
end

noncomputable section
set_option linter.unusedVariables false
set_option linter.unusedSimpArgs false
namespace Sx
open Go
section
variable {H : Type} {enc : TypeId × Value → H} {P : Program} {W : World}
theorem rows_genw {t tl : TypeId} {css : List (List Value)} {s : Sl} (hl : css.length = s.len) (hr : rdsl (heapOf W) s css.flatten)
 (ih : ∀ c ∈ css, ∃ (v : V) (x : TV), c = T_api_Value.c x ∧ VIs (heapOf W) v x ∧ VB v) : ∃ l : List V, VRow (heapOf W) s l ∧ VBs l := by
 have key : ∀ (css : List (List Value)), (∀ c ∈ css, ∃ (v : V) (x : TV), c = T_api_Value.c x ∧ VIs (heapOf W) v x ∧ VB v) →
  ∃ (l : List V) (xs : List TV), css.flatten = xs.flatMap T_api_Value.c ∧ css.length = xs.length ∧ VsAre (heapOf W) l xs ∧ VBs l := by
  intro css
  induction css with
  | nil => intro _; exact ⟨[], [], rfl, rfl, trivial, trivial⟩
  | cons c css ihc =>
   intro hh
   obtain ⟨v, x, h1, h2, h3⟩ := hh c (List.mem_cons_self ..)
   obtain ⟨l, xs, g1, g2, g3, g4⟩ := ihc fun c' hc => hh c' (List.mem_cons_of_mem _ hc)
   exact ⟨v :: l, x :: xs, by rw [List.flatten_cons, List.flatMap_cons, g1, h1], by simp [g2], ⟨h2, g3⟩, ⟨h3, g4⟩⟩
 obtain ⟨l, xs, g1, g2, g3, g4⟩ := key css ih
 exact ⟨l, ⟨xs, by rw [← g1]; exact hr, by omega, g3⟩, g4⟩
theorem valw_of {t tl : TypeId} (hT : ValT P t tl) (hb : 1 ≤ P.bytesOf t) : ∀ (n : Nat) {cs : List Value}, TrW P W n t cs → ∃ (v : V) (y : TV), cs = T_api_Value.c y ∧ VIs (heapOf W) v y ∧ VB v := by
 intro n
 induction n using Nat.strongRecOn with
 | _ n ih =>
 intro cs h
 obtain ⟨fs, hu, hfs, ⟨f0, t0, a0, b0, c0, d0, e0⟩, ⟨f1, t1, a1, b1, c1, d1, e1⟩, ⟨f2, t2, a2, b2, c2, d2, e2⟩, ⟨f3, a3, b3, c3, e3⟩⟩ := hT.st
 obtain ⟨hl, m, rfl, hf⟩ := h.struct hu
 rw [hT.cells] at hl
 match cs, hl with
 | [q0, q1, q2, q3], _ =>
 have g0 := hf 0 f0 a0
 have g1 := hf 1 f1 a1
 have g2 := hf 2 f2 a2
 have g3 := hf 3 f3 a3
 rw [b0, c0, e0] at g0
 rw [b1, c1, e1] at g1
 rw [b2, c2, e2] at g2
 rw [b3, c3, e3] at g3
 simp at g0 g1 g2 g3
 obtain ⟨n0, k0, k2⟩ := g0.int d0
 obtain ⟨n1, l0, l2⟩ := g1.int d1
 obtain ⟨s2, m0, m1, m2⟩ := g2.str d2
 obtain ⟨s, css, m', hm', p0, p1, p2, p3, p4, p5, p6⟩ := g3.slice hT.sl hT.cells (by omega)
 have hmx : reachBytes = 140737488351232 := rfl
 rw [hmx] at p3 m2
 obtain ⟨l, r1, r2⟩ := rows_genw (t := t) (tl := tl) p4 p5 fun c hc => ih m' (by omega) (p6 c hc).2
 have hll := r1.len
 have hsl : s.len ≤ 140737488351232 := Nat.le_trans (Nat.le_mul_of_pos_right _ (by omega)) p3
 refine ⟨.mk n0 n1 s2 l, ⟨n0, n1, s2, s⟩, ?_, VIs_iff.2 ⟨rfl, rfl, rfl, r1⟩, ⟨?_, ?_, by omega, by omega, r2⟩⟩
 ·injection k0 with k0
  injection l0 with l0
  injection m0 with m0
  injection p0 with p0
  subst k0; subst l0; subst m0; subst p0
  simp [T_api_Value.c]
 ·simpa [Lit.wf, IntKind.min, IntKind.max, IntKind.signed, IntKind.bits] using k2
 ·simpa [Lit.wf, IntKind.min, IntKind.max, IntKind.signed, IntKind.bits] using l2
end
end Sx
end

noncomputable section
set_option linter.unusedVariables false
set_option linter.unusedSimpArgs false
namespace Sx
open Go Go.Proofs
section
variable {H : Type} {enc : TypeId × Value → H} {P : Program} {W : World}
theorem row_ofw {t tl : TypeId} (hT : ValT P t tl) (hb : 1 ≤ P.bytesOf t) {m : Nat} {c : List Value} (h : TrW P W m tl c) : ∃ (s : Sl) (l : List V), c = [slv s] ∧ VRow (heapOf W) s l ∧ VBs l ∧ l.length ≤ 140737488355328 := by
 obtain ⟨s, css, m', hm', p0, p1, p2, p3, p4, p5, p6⟩ := h.slice hT.sl hT.cells (by omega)
 obtain ⟨l, r1, r2⟩ := rows_genw (t := t) (tl := tl) p4 p5 fun c hc => valw_of hT hb m' (p6 c hc).2
 have hll := r1.len
 have hmx : reachBytes = 140737488351232 := rfl
 rw [hmx] at p3
 have hsl : s.len ≤ 140737488351232 := Nat.le_trans (Nat.le_mul_of_pos_right _ (by omega)) p3
 exact ⟨s, l, p0, r1, r2, by omega⟩
end
end Sx
end

noncomputable section
set_option linter.unusedVariables false
set_option linter.unusedSimpArgs false
namespace Sx
open Go Go.Proofs
theorem vslt_cons (a b : UInt8) (s t : Str) : slt (a :: s) (b :: t) = (decide (a < b) || (decide (a = b) && slt s t)) := by
 simp only [slt, Op.bytesLess]
 by_cases h : a < b
 ·simp [h]
 ·by_cases h2 : a = b
  ·subst h2; simp [h]
  ·simp [h, h2]
theorem sgn_self (a : Int) : sgn a a = 0 := by unfold sgn; rw [if_neg (by omega), if_neg (by omega)]
theorem sgn_rng (a b : Int) : -1 ≤ sgn a b ∧ sgn a b ≤ 1 := by unfold sgn; (split; · omega); (split <;> omega)
theorem sgn_neg {a b : Int} : sgn a b < 0 ↔ a < b := by unfold sgn; (split; · omega); (split <;> omega)
theorem sgn_zero {a b : Int} : sgn a b = 0 ↔ a = b := by unfold sgn; (split; · omega); (split <;> omega)
theorem vslt : ∀ s t : Str, slt s t = decide (vcmpS s t < 0) ∧ (vcmpS s t = 0 ↔ s = t) ∧ -1 ≤ vcmpS s t ∧ vcmpS s t ≤ 1
 | [], [] => ⟨rfl, by simp [vcmpS], by simp [vcmpS], by simp [vcmpS]⟩
 | [], b :: t => ⟨rfl, by simp [vcmpS], by simp [vcmpS], by simp [vcmpS]⟩
 | a :: s, [] => ⟨rfl, by simp [vcmpS], by simp [vcmpS], by simp [vcmpS]⟩
 | a :: s, b :: t => by
  obtain ⟨h1, h2, h3, h4⟩ := vslt s t
  rw [vslt_cons, h1]
  simp only [vcmpS]
  by_cases he : a = b
  ·subst he
   have : ¬ a < a := fun h => Nat.lt_irrefl _ h
   refine ⟨by simp [this], ?_, by rw [if_pos rfl]; exact h3, by rw [if_pos rfl]; exact h4⟩
   rw [if_pos rfl, h2]; simp
  ·have hne : ¬ (a.toNat : Int) = b.toNat := fun h => he (UInt8.toNat_inj.1 (by omega))
   have hz : ¬ sgn a.toNat b.toNat = 0 := fun h => hne (sgn_zero.1 h)
   refine ⟨?_, ?_, ?_⟩
   ·simp only [he, if_false, decide_false, Bool.false_and, Bool.or_false]
    rw [decide_eq_decide, sgn_neg, UInt8.lt_iff_toNat_lt]; omega
   ·simp only [he, if_false, List.cons.injEq, false_and]; exact ⟨fun h => hz h, fun h => h.elim⟩
   ·rw [if_neg he]; exact sgn_rng _ _
section
variable {C : Ctx} {H : Heap}
theorem pcmp8_ok {a b : Int} {K : Int → Heap → Prop} (k : K (sgn a b) H) : c_cmp_Compare_uint8 C a b K H := by
 have nan : ∀ {a : Int} {K : Bool → Heap → Prop}, K false H → c_cmp_isNaN_uint8 C a K H := fun {a K} k => by
  apply ad_cmp_isNaN_uint8
  unfold sh_cmp_isNaN_uint8
  simpa using k
 apply ad_cmp_Compare_uint8
 unfold sh_cmp_Compare_uint8
 refine nan (nan (ift_neg rfl (ift_neg rfl ?_)))
 unfold sgn at k
 refine ift.of (fun h => ?_) (fun h => ?_)
 ·rw [if_pos (of_decide_eq_true h)] at k; exact k
 rw [if_neg (of_decide_eq_false h)] at k
 refine ift.of (fun h => ?_) (fun h => ?_)
 ·rw [if_pos (show b < a from of_decide_eq_true h)] at k; exact k
 ·rw [if_neg (show ¬ b < a from of_decide_eq_false h)] at k; exact k
theorem pcmp64_ok {a b : Int} {K : Int → Heap → Prop} (k : K (sgn a b) H) : c_cmp_Compare_int64 C a b K H := by
 have nan : ∀ {a : Int} {K : Bool → Heap → Prop}, K false H → c_cmp_isNaN_int64 C a K H := fun {a K} k => by
  apply ad_cmp_isNaN_int64
  unfold sh_cmp_isNaN_int64
  simpa using k
 apply ad_cmp_Compare_int64
 unfold sh_cmp_Compare_int64
 refine nan (nan (ift_neg rfl (ift_neg rfl ?_)))
 unfold sgn at k
 refine ift.of (fun h => ?_) (fun h => ?_)
 ·rw [if_pos (of_decide_eq_true h)] at k; exact k
 rw [if_neg (of_decide_eq_false h)] at k
 refine ift.of (fun h => ?_) (fun h => ?_)
 ·rw [if_pos (show b < a from of_decide_eq_true h)] at k; exact k
 ·rw [if_neg (show ¬ b < a from of_decide_eq_false h)] at k; exact k
theorem pcmpI_ok {a b : Int} {K : Int → Heap → Prop} (k : K (sgn a b) H) : c_cmp_Compare_int C a b K H := by
 have nan : ∀ {a : Int} {K : Bool → Heap → Prop}, K false H → c_cmp_isNaN_int C a K H := fun {a K} k => by
  apply ad_cmp_isNaN_int
  unfold sh_cmp_isNaN_int
  simpa using k
 apply ad_cmp_Compare_int
 unfold sh_cmp_Compare_int
 refine nan (nan (ift_neg rfl (ift_neg rfl ?_)))
 unfold sgn at k
 refine ift.of (fun h => ?_) (fun h => ?_)
 ·rw [if_pos (of_decide_eq_true h)] at k; exact k
 rw [if_neg (of_decide_eq_false h)] at k
 refine ift.of (fun h => ?_) (fun h => ?_)
 ·rw [if_pos (show b < a from of_decide_eq_true h)] at k; exact k
 ·rw [if_neg (show ¬ b < a from of_decide_eq_false h)] at k; exact k
theorem pcmpS_ok {a b : Str} {K : Int → Heap → Prop} (k : K (vcmpS a b) H) : c_cmp_Compare_string C a b K H := by
 have nan : ∀ {a : Str} {K : Bool → Heap → Prop}, K false H → c_cmp_isNaN_string C a K H := fun {a K} k => by
  apply ad_cmp_isNaN_string
  unfold sh_cmp_isNaN_string
  simpa using k
 apply ad_cmp_Compare_string
 unfold sh_cmp_Compare_string
 obtain ⟨h1, h2, h3, h4⟩ := vslt a b
 refine nan (nan (ift_neg rfl (ift_neg rfl ?_)))
 refine ift.of (fun h => ?_) (fun h => ?_)
 ·rw [h1] at h
  have := of_decide_eq_true h
  rw [show vcmpS a b = -1 by omega] at k; exact k
 have hn : ¬ vcmpS a b < 0 := by rw [h1] at h; exact of_decide_eq_false h
 rw [h, Bool.false_or]
 refine ift.of (fun h => ?_) (fun h => ?_)
 ·have : ¬ a = b := by simpa using h
  have : ¬ vcmpS a b = 0 := fun e => this (h2.1 e)
  rw [show vcmpS a b = 1 by omega] at k; exact k
 ·have : a = b := by simpa using h
  rw [h2.2 this] at k; exact k
theorem por_ok {b : Nat} {m : Bool} {l : List Int} {n : Nat} {K : Int → Heap → Prop} (hb : H b = some (m, .row (l.map fun x => Value.int .i64 x))) (hn : n = l.length) (hl : l.length ≤ 1000) (k : K ((l.find? fun x => x != 0).getD 0) H) : c_cmp_Or_int C (Sl.of (some (b, 0)) n n) K H := by
 subst hn
 apply ad_cmp_Or_int
 unfold sh_cmp_Or_int
 refine ⟨fun x H' => ∃ i : Nat, x = (i : Int) ∧ i ≤ l.length ∧ H = H' ∧ (l.find? fun x => x != 0) = ((l.drop i).find? fun x => x != 0), fun x _ => l.length - x.toNat, ⟨0, rfl, Nat.zero_le _, rfl, rfl⟩, ?_⟩
 rintro x _ ⟨i, rfl, hi, rfl, hc⟩
 refine ift.of (fun h => ?_) (fun h => ?_)
 ·have h1 : i < l.length := by have := of_decide_eq_true h; simp only [Sl.of] at this; omega
  refine ⟨(b, 0), rfl, rfl, by omega, of_decide_eq_true h, l[i], ?_, ?_⟩
  ·simp [rd, hb, GO.cells?, h1]
  rw [List.drop_eq_getElem_cons h1, List.find?_cons] at hc
  refine ift.of (fun h => ?_) (fun h => ?_)
  ·rw [h] at hc
   rw [hc] at k; exact k
  ·rw [h] at hc
   rw [w_i64 (by omega) (by omega)]
   exact ⟨⟨i + 1, by omega, by omega, rfl, hc⟩, by first | omega | (dsimp only; omega)⟩
 ·have : i = l.length := by have := of_decide_eq_false h; simp only [Sl.of] at this; omega
  subst this
  rw [hc, List.drop_length] at k; exact k
theorem pHasPrefix_ok {s p : Str} {K : Bool → Heap → Prop} (k : K (p.isPrefixOf s) H) : c_strings_HasPrefix C s p K H := by
 apply ad_strings_HasPrefix
 unfold sh_strings_HasPrefix
 exact hasPrefix_ok k
theorem pre45 (s : Str) : ([45] : Str).isPrefixOf s = isMin s := by
 cases s with
 | nil => rfl
 | cons c s =>
  simp only [List.isPrefixOf, isMin, List.head?_cons, Option.some.injEq, Bool.and_true]
  by_cases h : c = 45
  ·subst h; rfl
  ·have h2 : ¬ (45 : UInt8) = c := fun e => h e.symm
   simp [h, h2]
theorem or2 (a b : Int) : (([a, b].find? fun x => x != 0).getD 0) = if a ≠ 0 then a else b := by
 by_cases h : a = 0
 ·subst h
  by_cases hb : b = 0
  ·subst hb; rfl
  ·simp [hb]
 ·simp [h]
theorem or3 (a b c : Int) : (([a, b, c].find? fun x => x != 0).getD 0) = if a ≠ 0 then a else if b ≠ 0 then b else c := by
 by_cases h : a = 0
 ·subst h
  have := or2 b c
  simpa using this
 ·simp [h]
theorem pbigs0_ok {a b : Str} {K : Int → Heap → Prop} (ma : isMin a = false) (mb : isMin b = false) (k : K (cmpD a b) H) : c_value_bigs C a b K H := by
 apply c_value_bigs.gh
 apply ad_value_bigs
 unfold sh_value_bigs
 refine pHasPrefix_ok (pHasPrefix_ok ?_)
 rw [pre45, pre45, ma, mb]
 refine ift_neg rfl (ift_neg rfl (ift_neg rfl ?_))
 refine pcmpI_ok (pcmpS_ok ?_)
 intro c hc
 refine por_ok (l := [sgn a.length b.length, vcmpS a b]) (Heap.put_same ..) rfl (by simp) ?_
 refine ⟨H, Gh.le (Heap.le_put hc), ?_⟩
 rw [or2]
 unfold cmpD at k
 by_cases h : a.length = b.length
 ·rw [if_pos h] at k
  rw [if_neg (by rw [h, sgn_self]; simp)]; exact k
 ·rw [if_neg h] at k
  rw [if_pos (fun e => h (by have := sgn_zero.1 e; omega))]; exact k
theorem pbigs_ok {a b : Str} {K : Int → Heap → Prop} (na : numS a = true) (nb : numS b = true) (k : K (cmpB a b) H) : c_value_bigs C a b K H := by
 by_cases hn : isMin a = false ∧ isMin b = false
 ·rw [cmpB_no hn.1 hn.2] at k; exact pbigs0_ok hn.1 hn.2 k
 apply ad_value_bigs
 unfold sh_value_bigs
 refine pHasPrefix_ok (pHasPrefix_ok ?_)
 rw [pre45, pre45]
 unfold cmpB at k
 refine ift.of (fun h => ?_) (fun h => ?_)
 ·obtain ⟨h1, h2⟩ := Bool.and_eq_true_iff.1 h
  rw [if_pos h1, if_pos h2] at k
  have la : 1 ≤ a.length := by have := numS_ne na; cases a <;> simp_all
  have lb : 1 ≤ b.length := by have := numS_ne nb; cases b <;> simp_all
  refine ⟨H, Heap.le.refl _, by omega, by omega, by omega, _, rfl, by omega, by omega, by omega, _, rfl, ?_⟩
  have ea : (a.take (a.length : Int).toNat).drop (1 : Int).toNat = a.tail := by simp
  have eb : (b.take (b.length : Int).toNat).drop (1 : Int).toNat = b.tail := by simp
  rw [ea, eb]
  exact pbigs0_ok (numS_isMin nb h2).1 (numS_isMin na h1).1 ⟨Heap.le.refl _, k⟩
 refine ift.of (fun h1 => ?_) (fun h1 => ?_)
 ·rw [if_pos h1] at k
  have h2 : isMin b = false := by rw [h1] at h; simpa using h
  rw [if_neg (by rw [h2]; simp)] at k; exact k
 rw [if_neg (by rw [h1]; simp)] at k
 refine ift.of (fun h2 => ?_) (fun h2 => ?_)
 ·rw [if_pos h2] at k; exact k
 ·exact absurd ⟨h1, h2⟩ hn
theorem plast_ok {a b : Bool} {K : Int → Heap → Prop} (k : K (lastB a b) H) : c_value_last C a b K H := by
 apply ad_value_last
 unfold sh_value_last
 unfold lastB at k
 refine ift.of (fun h => ?_) (fun h => ?_)
 ·rw [if_pos (by simpa using h)] at k; exact k
 rw [if_neg (by simpa using h)] at k
 refine ift.of (fun h => ?_) (fun h => ?_)
 ·rw [if_pos h] at k; exact k
 ·rw [if_neg (by rw [h]; decide)] at k; exact k
theorem may1_ok {v : V} {x : TV} {K : Bool → Heap → Prop} (hv : VIs H v x) (hB : VB v) (k : K (!mayV v) H) : c_value_may_1 C x K H := by
 apply c_value_may_1.gh
 apply ad_value_may_1
 unfold sh_value_may_1
 intro c hc
 have hle := Heap.le_put hc (g := .row (T_api_Value.c x)) (m := true)
 refine bxV (Heap.put_same ..) ?_
 refine value_Check_ok (hv.le hle) hB ⟨H, Gh.le hle, ?_⟩
 rw [bne, mayV_dec]; exact k
/-- a function that is asked of each value -/
theorem indexF_ok {l : List V} {s : Sl} {f : Value} {φ : V → Bool} {K : Int → Heap → Prop} (hs : VRow H s l) (hl : l.length ≤ 140737488355328)
 (hf : ∀ v x, v ∈ l → VIs H v x → ∀ Φ : Value → Heap → Prop, Φ (.bool (φ v)) H → callU Tryz.prog C f [.agg (T_api_Value.c x).toArray] H Φ)
 (k : ∀ i : Int, (0 ≤ i ↔ l.any φ = true) → K i H) : c_slices_IndexFunc_api_Value_api_Value C s f K H := by
 apply ad_slices_IndexFunc_api_Value_api_Value
 unfold sh_slices_IndexFunc_api_Value_api_Value
 rw [hs.len]
 refine ⟨fun x H' => ∃ i : Nat, x = (i : Int) ∧ i ≤ l.length ∧ H = H' ∧ (l.take i).any φ = false, fun x _ => l.length - x.toNat, ⟨0, rfl, Nat.zero_le _, rfl, rfl⟩, ?_⟩
 rintro x _ ⟨i, rfl, hi, rfl, ha⟩
 refine ift.of (fun h => ?_) (fun h => ?_)
 ·have hlt : i < l.length := by have := of_decide_eq_true h; omega
  have hm := List.getElem_mem hlt
  refine hs.ld (Heap.le.refl _) rfl hlt fun y hy => ?_
  refine hf _ y hm hy _ ⟨_, rfl, ?_⟩
  refine ift.of (fun h => ?_) (fun h => ?_)
  ·exact k _ ⟨fun _ => List.any_eq_true.2 ⟨_, hm, h⟩, fun _ => by omega⟩
  ·rw [w_i64 (by omega) (by omega)]
   refine ⟨⟨i + 1, by omega, by omega, rfl, ?_⟩, by first | omega | (dsimp only; omega)⟩
   rw [List.take_add_one, List.getElem?_eq_getElem hlt, Option.toList_some, List.any_append, ha]; simp [h]
 ·have hie : i = l.length := by have := of_decide_eq_false h; omega
  rw [hie, List.take_length] at ha
  exact k _ ⟨fun h => by omega, fun h => by rw [h] at ha; cases ha⟩
theorem containsF_ok {l : List V} {s : Sl} {f : Value} {φ : V → Bool} {K : Bool → Heap → Prop} (hs : VRow H s l) (hl : l.length ≤ 140737488355328)
 (hf : ∀ v x, v ∈ l → VIs H v x → ∀ Φ : Value → Heap → Prop, Φ (.bool (φ v)) H → callU Tryz.prog C f [.agg (T_api_Value.c x).toArray] H Φ)
 (k : K (l.any φ) H) : c_slices_ContainsFunc_api_Value_api_Value C s f K H := by
 apply ad_slices_ContainsFunc_api_Value_api_Value
 unfold sh_slices_ContainsFunc_api_Value_api_Value
 refine indexF_ok hs hl hf fun i hi => ?_
 have : decide (i ≥ 0) = l.any φ := by
  rw [Bool.eq_iff_iff, decide_eq_true_eq]; exact hi
 rw [this]; exact k
theorem pmay_ok {l : List V} {s : Sl} {K : Bool → Heap → Prop} (hs : VRow H s l) (hl : l.length ≤ 140737488355328) (hB : VBs l) (k : K (mayR l) H) : c_value_may C s K H := by
 apply ad_value_may
 unfold sh_value_may
 refine containsF_ok (φ := fun v => !mayV v) hs hl (fun v x hv hx Φ hΦ => ⟨_, [], [], rfl, ok_value_may_1, ?_⟩) ?_
 ·have h : c_value_may_1 C x (fun r H2 => Φ (.bool r) H2) H := may1_ok hx (hB.mem hv) hΦ
  exact Spec.mono h fun v H2 ⟨r, hv, h⟩ => by rw [hv]; exact h
 ·have : (!(l.any fun v => !mayV v)) = mayR l := by unfold mayR; rw [List.not_any_eq_all_not]; simp
  rw [this]; exact k
/-- rows, value by value -/
theorem compareF_ok {l m : List V} {s t : Sl} {f : Value} {K : Int → Heap → Prop} (hs : VRow H s l) (ht : VRow H t m) (hl : l.length ≤ 140737488355328) (hm : m.length ≤ 140737488355328)
 (hf : ∀ v x w y, v ∈ l → w ∈ m → ∀ A : Heap, H.le A → VIs A v x → VIs A w y → ∀ Φ : Value → Heap → Prop, Φ (.int .i64 (cmpV v w)) A → callU Tryz.prog C f [.agg (T_api_Value.c x).toArray, .agg (T_api_Value.c y).toArray] A Φ)
 (k : K (cmpVs l m) H) : c_slices_CompareFunc_api_Value_api_Value_api_Value_api_Value C s t f K H := by
 apply c_slices_CompareFunc_api_Value_api_Value_api_Value_api_Value.gh
 apply ad_slices_CompareFunc_api_Value_api_Value_api_Value_api_Value
 unfold sh_slices_CompareFunc_api_Value_api_Value_api_Value_api_Value
 rw [hs.len, ht.len]
 refine ⟨fun x A => ∃ i : Nat, x = (i : Int) ∧ i ≤ l.length ∧ i ≤ m.length ∧ H.le A ∧ cmpVs l m = cmpVs (l.drop i) (m.drop i), fun x _ => l.length - x.toNat, ⟨0, rfl, Nat.zero_le _, Nat.zero_le _, Heap.le.refl _, rfl⟩, ?_⟩
 rintro x A ⟨i, rfl, hi, hi2, hA, hc⟩
 refine ift.of (fun h => ?_) (fun h => ?_)
 ·have h1 : i < l.length := by have := of_decide_eq_true h; omega
  have m1 := List.getElem_mem h1
  refine hs.ld hA rfl h1 fun y hy => ?_
  intro b1 n1
  have hle1 := Heap.le_put n1 (g := .row (T_api_Value.c T_api_Value.zero)) (m := true)
  refine ⟨_, Heap.put_same .., by simp [T_api_Value.c], ?_⟩
  have e1 : ∀ z : TV, splice (T_api_Value.c T_api_Value.zero) 0 (T_api_Value.c z) = T_api_Value.c z := fun z => by simp [splice, T_api_Value.c]
  dsimp only
  rw [e1, Heap.put_put]
  have hle1 := Heap.le_put n1 (g := .row (T_api_Value.c y)) (m := true)
  refine ift.of (fun h => ?_) (fun h => ?_)
  ·have h2 : i = m.length := by have := of_decide_eq_true h; omega
   refine ⟨H, Gh.le (hA.trans hle1), ?_⟩
   subst h2
   rw [hc, List.drop_length, List.drop_eq_getElem_cons h1] at k; exact k
  ·have h2 : i < m.length := by have := of_decide_eq_false h; omega
   have m2 := List.getElem_mem h2
   rw [List.drop_eq_getElem_cons h1, List.drop_eq_getElem_cons h2] at hc
   refine ht.ld (hA.trans hle1) rfl h2 fun z hz => ?_
   intro b2 n2
   refine ⟨_, Heap.put_same .., by simp [T_api_Value.c], ?_⟩
   dsimp only
   rw [e1, Heap.put_put]
   have hle2 := Heap.le_put n2 (g := .row (T_api_Value.c z)) (m := true)
   have hne : b1 ≠ b2 := fun e => by rw [← e, Heap.put_same] at n2; cases n2
   refine bxV (m := true) (by rw [Heap.put_ne _ _ _ hne, Heap.put_same]) (bxV (m := true) (Heap.put_same ..) ?_)
   have hle := (hA.trans hle1).trans hle2
   refine hf _ y _ z m1 m2 _ hle (hy.le hle) (hz.le hle) _ ⟨_, rfl, ?_⟩
   simp only [cmpVs] at hc
   refine ift.of (fun h => ?_) (fun h => ?_)
   ·rw [if_pos (by simpa using h)] at hc
    rw [hc] at k; exact ⟨H, Gh.le hle, k⟩
   ·rw [if_neg (by simpa using h)] at hc
    rw [w_i64 (by omega) (by omega)]
    exact ⟨⟨i + 1, by omega, by omega, by omega, hle, hc⟩, by first | omega | (dsimp only; omega)⟩
 ·have h1 : i = l.length := by have := of_decide_eq_false h; omega
  subst h1
  rw [hc, List.drop_length, cmpVs_nil_l, List.length_drop] at k
  refine ift.of (fun h => ?_) (fun h => ?_)
  ·have := of_decide_eq_true h
   rw [show sgn 0 ((m.length - l.length : Nat) : Int) = -1 by unfold sgn; rw [if_pos (by omega)]] at k
   exact ⟨H, Gh.le hA, k⟩
  ·have := of_decide_eq_false h
   rw [show sgn 0 ((m.length - l.length : Nat) : Int) = 0 by rw [sgn_zero]; omega] at k
   exact ⟨H, Gh.le hA, k⟩
theorem prows_gen {l m : List V} {s t : Sl} {K : Int → Heap → Prop} (hs : VRow H s l) (ht : VRow H t m) (hl : l.length ≤ 140737488355328) (hm : m.length ≤ 140737488355328)
 (ih : ∀ v ∈ l, ∀ w ∈ m, ∀ {A : Heap} {x y : TV} {K : Int → Heap → Prop}, VIs A v x → VIs A w y → K (cmpV v w) A → c_value_item_cmp C x y K A) (k : K (cmpVs l m) H) : c_value_rows C s t K H := by
 apply ad_value_rows
 unfold sh_value_rows
 refine compareF_ok hs ht hl hm (fun v x w y hv hw A hA hx hy Φ hΦ => ⟨_, [], [], rfl, ok_value_rows_1, ?_⟩) k
 have h : c_value_rows_1 C x y (fun r H2 => Φ (.int .i64 r) H2) A := by
  apply c_value_rows_1.gh
  apply ad_value_rows_1
  unfold sh_value_rows_1
  intro b1 n1 b3 n3
  have hb3 : ((A.put b1 (.row (T_api_Value.c x))).put b3 (.row (T_api_Value.c y))) b3 = some (true, .row (T_api_Value.c y)) := Heap.put_same ..
  have hne : b1 ≠ b3 := fun e => by rw [e, Heap.put_same] at n3; cases n3
  have hb1 : ((A.put b1 (.row (T_api_Value.c x))).put b3 (.row (T_api_Value.c y))) b1 = some (true, .row (T_api_Value.c x)) := by rw [Heap.put_ne _ _ _ hne, Heap.put_same]
  have hle := (Heap.le_put n1 (g := .row (T_api_Value.c x)) (m := true)).trans (Heap.le_put n3 (g := .row (T_api_Value.c y)) (m := true))
  generalize (A.put b1 (.row (T_api_Value.c x))).put b3 (.row (T_api_Value.c y)) = B at *
  refine bxV hb1 (bxV hb3 ?_)
  exact ih v hv w hw (hx.le hle) (hy.le hle) ⟨A, Gh.le hle, hΦ⟩
 exact Spec.mono h fun v H2 ⟨r, hv, h⟩ => by rw [hv]; exact h
theorem okN_kinds {k n : Int} {s : Str} {m : Nat} (h : okN k n s m = true) : (k = 1 ∧ s = [] ∧ m = 0) ∨ (k = 2 ∧ s = [] ∧ m = 0) ∨ (k = 3 ∧ n = 0 ∧ m = 0) ∨ (k = 4 ∧ n = 0 ∧ m = 0) ∨ (k = 5 ∧ n = 0 ∧ s = []) ∨ (k = 6 ∧ n = 0) := by
 unfold okN at h
 split at h
 ·rename_i e
  simp only [Bool.and_eq_true, decide_eq_true_eq, List.isEmpty_iff] at h
  exact .inl ⟨e, h.1.2, h.2⟩
 split at h
 ·rename_i e
  simp only [Bool.and_eq_true, decide_eq_true_eq, List.isEmpty_iff] at h
  exact .inr (.inl ⟨e, h.1, h.2⟩)
 split at h
 ·rename_i e
  simp only [Bool.and_eq_true, decide_eq_true_eq, beq_iff_eq] at h
  exact .inr (.inr (.inl ⟨e, h.1.2, h.2⟩))
 split at h
 ·rename_i e
  simp only [Bool.and_eq_true, decide_eq_true_eq, beq_iff_eq] at h
  exact .inr (.inr (.inr (.inl ⟨e, h.1, h.2⟩)))
 split at h
 ·rename_i e
  simp only [Bool.and_eq_true, decide_eq_true_eq, beq_iff_eq, List.isEmpty_iff] at h
  exact .inr (.inr (.inr (.inr (.inl ⟨e, h.1.1, h.1.2⟩))))
 split at h
 ·rename_i e
  simp only [Bool.and_eq_true, decide_eq_true_eq, beq_iff_eq] at h
  exact .inr (.inr (.inr (.inr (.inr ⟨e, h.1⟩))))
 ·cases h
theorem pcmp_ok {v w : V} {x y : TV} {H : Heap} {K : Int → Heap → Prop} (hv : VIs H v x) (hw : VIs H w y) (hB : VB v) (hB2 : VB w) (hF : formV v = true) (hF2 : formV w = true) (k : K (cmpV v w) H) : c_value_item_cmp C x y K H := by
 refine V.rec_ (P := fun v => ∀ {w x y H} {K : Int → Heap → Prop}, VIs H v x → VIs H w y → VB v → VB w → formV v = true → formV w = true → K (cmpV v w) H → c_value_item_cmp C x y K H) (fun v ih => ?_) v hv hw hB hB2 hF hF2 k
 clear hv hw hB hB2 hF hF2 k
 intro w x y H K hv hw hB hB2 hF hF2 k
 apply c_value_item_cmp.gh
 apply ad_value_item_cmp
 unfold sh_value_item_cmp
 intro b1 n1 b3 n3
 have hb3 : ((H.put b1 (.row (T_api_Value.c x))).put b3 (.row (T_api_Value.c y))) b3 = some (true, .row (T_api_Value.c y)) := Heap.put_same ..
 have hne : b1 ≠ b3 := fun e => by rw [e, Heap.put_same] at n3; cases n3
 have hb1 : ((H.put b1 (.row (T_api_Value.c x))).put b3 (.row (T_api_Value.c y))) b1 = some (true, .row (T_api_Value.c x)) := by rw [Heap.put_ne _ _ _ hne, Heap.put_same]
 have hle := (Heap.le_put n1 (g := .row (T_api_Value.c x)) (m := true)).trans (Heap.le_put n3 (g := .row (T_api_Value.c y)) (m := true))
 generalize (H.put b1 (.row (T_api_Value.c x))).put b3 (.row (T_api_Value.c y)) = H1 at *
 have k' : ∃ H0, Gh C H1 H0 ∧ K (cmpV v w) H0 := ⟨H, Gh.le hle, k⟩
 rw [formV_eq, Bool.and_eq_true] at hF hF2
 rw [cmpV_eq] at k'
 refine bxK hb1 (bxK hb3 ?_)
 rw [hv.kind, hw.kind]
 refine pcmp8_ok ?_
 refine ift.of (fun h => ?_) (fun h => ?_)
 ·rw [if_pos (fun e => by rw [e, sgn_self] at h; simp at h)] at k'; exact k'
 have hkk : v.k = w.k := sgn_zero.1 (by simpa using h)
 rw [if_neg (by simp [hkk])] at k'
 have hr1 := hv.row.le hle
 have hr2 := hw.row.le hle
 refine bxK hb1 ?_
 rw [hv.kind]
 refine ift.of (fun h => ?_) (fun h3 => ?_)
 ·have h : v.k = 3 := by simpa using h
  rw [if_pos h] at k'
  refine bxS hb1 (bxS hb3 ?_)
  rw [hv.txt, hw.txt]
  exact pbigs_ok (okN_num hF.1 h) (okN_num hF2.1 (by omega)) k'
 have h3 : ¬ v.k = 3 := by simpa using h3
 rw [if_neg h3] at k'
 refine ift.of (fun h => ?_) (fun h4 => ?_)
 ·have h : v.k = 4 := by simpa using h
  rw [if_pos h] at k'
  refine bxS hb1 (bxS hb3 ?_)
  rw [hv.txt, hw.txt]
  exact pcmpS_ok k'
 have h4 : ¬ v.k = 4 := by simpa using h4
 rw [if_neg h4] at k'
 refine ⟨H1, Heap.le.refl _, ?_⟩
 refine bxN hb1 (bxN hb3 (bxS hb1 (bxS hb3 (bxL hb1 (bxL hb3 ?_)))))
 rw [hv.num, hw.num, hv.txt, hw.txt]
 refine pcmp64_ok ⟨Heap.le.refl _, pcmpS_ok ⟨Heap.le.refl _, ?_⟩⟩
 refine prows_gen hr1 hr2 hB.l hB2.l (fun p hp q hq {A x' y'} {K'} hx hy kk => ih p hp hx hy (hB.ls.mem hp) (hB2.ls.mem hq) (formVs_mem hp hF.2) (formVs_mem hq hF2.2) kk) ⟨Heap.le.refl _, ?_⟩
 intro b5 n5
 have hle5 := Heap.le_put n5 (g := .row [Value.int .i64 (sgn v.n w.n), .int .i64 (vcmpS v.s w.s), .int .i64 (cmpVs v.l w.l)]) (m := true)
 refine ⟨hle5, ?_⟩
 refine por_ok (l := [sgn v.n w.n, vcmpS v.s w.s, cmpVs v.l w.l]) (Heap.put_same ..) rfl (by simp) ⟨hle5, ?_⟩
 rw [or3]
 obtain ⟨H0, hg, hk⟩ := k'
 refine ⟨H0, (Gh.le hle5).trans hg, ?_⟩
 rcases okN_kinds hF.1 with ⟨e, e1, e2⟩ | ⟨e, e1, e2⟩ | ⟨e, _⟩ | ⟨e, _⟩ | ⟨e, e1, e2⟩ | ⟨e, e1⟩
 ·rcases okN_kinds hF2.1 with ⟨f, f1, f2⟩ | ⟨f, _⟩ | ⟨f, _⟩ | ⟨f, _⟩ | ⟨f, _⟩ | ⟨f, _⟩ <;> try (exfalso; omega)
  rw [if_neg (by omega), if_neg (by omega)] at hk
  have l1 := List.length_eq_zero_iff.1 e2
  have l2 := List.length_eq_zero_iff.1 f2
  rw [e1, f1, l1, l2]
  split
  ·exact hk
  ·rename_i hz
   have : sgn v.n w.n = 0 := by omega
   rw [this] at hk
   simpa [vcmpS, cmpVs] using hk
 ·rcases okN_kinds hF2.1 with ⟨f, _⟩ | ⟨f, f1, f2⟩ | ⟨f, _⟩ | ⟨f, _⟩ | ⟨f, _⟩ | ⟨f, _⟩ <;> try (exfalso; omega)
  rw [if_neg (by omega), if_neg (by omega)] at hk
  have l1 := List.length_eq_zero_iff.1 e2
  have l2 := List.length_eq_zero_iff.1 f2
  rw [e1, f1, l1, l2]
  split
  ·exact hk
  ·rename_i hz
   have : sgn v.n w.n = 0 := by omega
   rw [this] at hk
   simpa [vcmpS, cmpVs] using hk
 ·exact absurd e h3
 ·exact absurd e h4
 ·rcases okN_kinds hF2.1 with ⟨f, _⟩ | ⟨f, _⟩ | ⟨f, _⟩ | ⟨f, _⟩ | ⟨f, f1, f2⟩ | ⟨f, _⟩ <;> try (exfalso; omega)
  rw [if_pos e] at hk
  rw [e1, f1, e2, f2, sgn_self]
  simpa [vcmpS] using hk
 ·rcases okN_kinds hF2.1 with ⟨f, _⟩ | ⟨f, _⟩ | ⟨f, _⟩ | ⟨f, _⟩ | ⟨f, _⟩ | ⟨f, f1⟩ <;> try (exfalso; omega)
  rw [if_neg (by omega), if_pos e] at hk
  rw [e1, f1, sgn_self]
  simpa using hk
theorem prows_ok {l m : List V} {s t : Sl} {K : Int → Heap → Prop} (hs : VRow H s l) (ht : VRow H t m) (hl : l.length ≤ 140737488355328) (hm : m.length ≤ 140737488355328) (hB : VBs l) (hB2 : VBs m) (hF : mayR l = true) (hF2 : mayR m = true) (k : K (cmpVs l m) H) : c_value_rows C s t K H :=
 prows_gen hs ht hl hm (fun p hp q hq {A x' y'} {K'} hx hy kk => pcmp_ok hx hy (hB.mem hp) (hB2.mem hq) (mayV_form (List.all_eq_true.1 hF p hp)) (mayV_form (List.all_eq_true.1 hF2 q hq)) kk) k
theorem pCmpRows_ok {l m : List V} {s t : Sl} {K : Int → Heap → Prop} (hs : VRow H s l) (ht : VRow H t m) (hl : l.length ≤ 140737488355328) (hm : m.length ≤ 140737488355328) (hB : VBs l) (hB2 : VBs m) (k : K (cmpR l m) H) : c_value_CmpRows C s t K H := by
 apply ad_value_CmpRows
 unfold sh_value_CmpRows
 refine pmay_ok hs hl hB (pmay_ok ht hm hB2 ?_)
 unfold cmpR at k
 refine ift.of (fun h => ?_) (fun h => ?_)
 ·refine plast_ok ?_
  rw [if_neg (by intro hh; rw [hh.1, hh.2] at h; cases h)] at k; exact k
 ·have h1 : mayR l = true ∧ mayR m = true := by simpa using h
  rw [if_pos h1] at k
  exact prows_ok hs ht hl hm hB hB2 h1.1 h1.2 k
end
end Sx
end

noncomputable section
set_option linter.unusedVariables false
set_option linter.unusedSimpArgs false
namespace Sx
open Go Go.Proofs
/-- an order, told by signs -/
structure Lin {α : Type} (f : α → α → Int) (P : α → Prop) : Prop where
 anti : ∀ a b, P a → P b → f b a = - f a b
 rng : ∀ a b, P a → P b → -1 ≤ f a b ∧ f a b ≤ 1
 tr : ∀ a b c, P a → P b → P c → f a b ≤ 0 → f b c ≤ 0 → f a c ≤ 0 ∧ (f a b < 0 ∨ f b c < 0 → f a c < 0)
section
variable {α β : Type} {f g : α → α → Int} {P Q : α → Prop}
theorem Lin.refl (h : Lin f P) {a : α} (ha : P a) : f a a = 0 := by have := h.anti a a ha ha; omega
theorem Lin.l0 (h : Lin f P) {a b c : α} (ha : P a) (hb : P b) (hc : P c) (e : f a b = 0) : f a c = f b c := by
 have t1 := h.tr a b c ha hb hc (by omega)
 have e' := h.anti a b ha hb
 have t2 := h.tr b a c hb ha hc (by omega)
 have r1 := h.rng a c ha hc
 have r2 := h.rng b c hb hc
 rcases Int.lt_trichotomy (f b c) 0 with h1 | h1 | h1
 ·have := (t1 (by omega)).2 (.inr h1); omega
 ·have k1 := (t1 (by omega)).1
  rcases Int.lt_trichotomy (f a c) 0 with h2 | h2 | h2
  ·have := (t2 (by omega)).2 (.inr h2); omega
  ·omega
  ·omega
 ·rcases Int.lt_trichotomy (f a c) 0 with h2 | h2 | h2
  ·have := (t2 (by omega)).2 (.inr h2); omega
  ·have := (t2 (by omega)).1; omega
  ·omega
theorem Lin.r0 (h : Lin f P) {a b c : α} (ha : P a) (hb : P b) (hc : P c) (e : f b c = 0) : f a c = f a b := by
 have h1 := h.anti b c hb hc
 have h2 := h.l0 hc hb ha (by omega)
 have h3 := h.anti a c ha hc
 have h4 := h.anti a b ha hb
 omega
theorem Lin.sub (h : Lin f P) (hs : ∀ a, Q a → P a) : Lin f Q := ⟨fun a b ha hb => h.anti a b (hs a ha) (hs b hb), fun a b ha hb => h.rng a b (hs a ha) (hs b hb), fun a b c ha hb hc => h.tr a b c (hs a ha) (hs b hb) (hs c hc)⟩
theorem Lin.swap (h : Lin f P) : Lin (fun a b => f b a) P := ⟨fun a b ha hb => h.anti b a hb ha, fun a b ha hb => h.rng b a hb ha, fun a b c ha hb hc h1 h2 => by
 have := h.tr c b a hc hb ha h2 h1
 exact ⟨this.1, fun hh => this.2 hh.symm⟩⟩
theorem Lin.comp {f : β → β → Int} {P : β → Prop} (h : Lin f P) (u : α → β) : Lin (fun a b => f (u a) (u b)) (fun a => P (u a)) :=
 ⟨fun a b ha hb => h.anti _ _ ha hb, fun a b ha hb => h.rng _ _ ha hb, fun a b c ha hb hc => h.tr _ _ _ ha hb hc⟩
theorem Lin.or (h : Lin f P) (h2 : Lin g P) : Lin (fun a b => if f a b ≠ 0 then f a b else g a b) P := by
 refine ⟨fun a b ha hb => ?_, fun a b ha hb => ?_, fun a b c ha hb hc => ?_⟩
 ·have e1 := h.anti a b ha hb
  have e2 := h2.anti a b ha hb
  try dsimp only
  by_cases hz : f a b = 0
  ·rw [if_neg (by omega), if_neg (by omega)]; exact e2
  ·rw [if_pos (by omega), if_pos (by omega)]; exact e1
 ·try dsimp only
  split
  ·exact h.rng a b ha hb
  ·exact h2.rng a b ha hb
 ·try dsimp only
  have t := h.tr a b c ha hb hc
  have t2 := h2.tr a b c ha hb hc
  by_cases h1 : f a b = 0
  ·have e := h.l0 ha hb hc h1
   by_cases h3 : f b c = 0
   ·rw [if_neg (by omega), if_neg (by omega), if_neg (by omega)]; exact t2
   ·rw [if_neg (by omega), if_pos h3, if_pos (by omega)]
    intro _ k2
    exact ⟨by omega, fun _ => by omega⟩
  ·by_cases h3 : f b c = 0
   ·have e := h.r0 ha hb hc h3
    rw [if_pos h1, if_neg (by omega), if_pos (by omega)]
    intro k1 _
    exact ⟨by omega, fun _ => by omega⟩
   ·rw [if_pos h1, if_pos h3]
    intro k1 k2
    have := (t k1 k2).2 (.inl (by omega))
    rw [if_pos (by omega)]
    exact ⟨by omega, fun _ => this⟩
/-- first by classes, then within a class -/
theorem Lin.sel {κ : α → Int} {B : Int → α → α → Int} (hs : Lin (fun a b : Int => sgn a b) fun _ => True) (h : ∀ k, Lin (B k) P) : Lin (fun a b => if κ a ≠ κ b then sgn (κ a) (κ b) else B (κ a) a b) P := by
 refine ⟨fun a b ha hb => ?_, fun a b ha hb => ?_, fun a b c ha hb hc => ?_⟩
 ·try dsimp only
  by_cases hz : κ a = κ b
  ·rw [if_neg (by omega), if_neg (by omega), hz]; exact (h _).anti a b ha hb
  ·rw [if_pos (by omega), if_pos (by omega)]; exact hs.anti _ _ trivial trivial
 ·try dsimp only
  split
  ·exact hs.rng _ _ trivial trivial
  ·exact (h _).rng a b ha hb
 ·try dsimp only
  have t := hs.tr (κ a) (κ b) (κ c) trivial trivial trivial
  try dsimp only at t
  by_cases h1 : κ a = κ b
  ·by_cases h3 : κ b = κ c
   ·rw [if_neg (by omega), if_neg (by omega), if_neg (by omega), ← h1]; exact (h _).tr a b c ha hb hc
   ·rw [if_neg (by omega), if_pos h3, if_pos (by omega), h1]
    intro _ k2
    have := sgn_zero (a := κ b) (b := κ c)
    exact ⟨by omega, fun _ => by omega⟩
  ·have z1 := sgn_zero (a := κ a) (b := κ b)
   by_cases h3 : κ b = κ c
   ·rw [if_pos h1, if_neg (by omega), if_pos (by omega), ← h3]
    intro k1 _
    exact ⟨by omega, fun _ => by omega⟩
   ·rw [if_pos h1, if_pos h3]
    intro k1 k2
    have := (t k1 k2).2 (.inl (by omega))
    have z2 := sgn_neg.1 this
    rw [if_pos (by omega)]
    exact ⟨by omega, fun _ => this⟩
end
theorem Lin.sgn : Lin (fun a b : Int => sgn a b) fun _ => True := by
 refine ⟨fun a b _ _ => ?_, fun a b _ _ => sgn_rng a b, fun a b c _ _ _ h1 h2 => ?_⟩
 ·unfold Sx.sgn; split <;> split <;> omega
 ·have n1 := sgn_neg (a := a) (b := b)
  have n2 := sgn_neg (a := b) (b := c)
  have n3 := sgn_neg (a := a) (b := c)
  have z1 := sgn_zero (a := a) (b := b)
  have z2 := sgn_zero (a := b) (b := c)
  have z3 := sgn_zero (a := a) (b := c)
  omega
def lexF {α : Type} (f : α → α → Int) : List α → List α → Int
 | [], [] => 0
 | [], _ :: _ => -1
 | _ :: _, [] => 1
 | a :: s, b :: t => if f a b ≠ 0 then f a b else lexF f s t
theorem Lin.lex {α : Type} {f : α → α → Int} {P : α → Prop} (h : Lin f P) : Lin (lexF f) (fun l => ∀ a ∈ l, P a) := by
 refine ⟨fun l => ?_, fun l => ?_, fun l => ?_⟩
 ·induction l with
  | nil => intro m _ _; cases m <;> simp [lexF]
  | cons a l ih =>
   intro m hl hm
   cases m with
   | nil => simp [lexF]
   | cons b m =>
    have ha := hl a (List.mem_cons_self ..)
    have hb := hm b (List.mem_cons_self ..)
    have e1 := h.anti a b ha hb
    have e2 := ih m (fun x hx => hl x (List.mem_cons_of_mem _ hx)) (fun x hx => hm x (List.mem_cons_of_mem _ hx))
    simp only [lexF]
    by_cases hz : f a b = 0
    ·rw [if_neg (by omega), if_neg (by omega)]; exact e2
    ·rw [if_pos (by omega), if_pos (by omega)]; exact e1
 ·induction l with
  | nil => intro m _ _; cases m <;> simp [lexF]
  | cons a l ih =>
   intro m hl hm
   cases m with
   | nil => simp [lexF]
   | cons b m =>
    simp only [lexF]
    split
    ·exact h.rng a b (hl a (List.mem_cons_self ..)) (hm b (List.mem_cons_self ..))
    ·exact ih m (fun x hx => hl x (List.mem_cons_of_mem _ hx)) (fun x hx => hm x (List.mem_cons_of_mem _ hx))
 ·induction l with
  | nil =>
   intro m n _ _ _ h1 h2
   cases n with
   | nil =>
    cases m with
    | nil => simp [lexF]
    | cons b m => simp [lexF] at h2
   | cons c n => simp [lexF]
  | cons a l ih =>
   intro m n hl hm hn
   cases m with
   | nil => intro h1; simp [lexF] at h1
   | cons b m =>
   cases n with
   | nil => intro _ h2; simp [lexF] at h2
   | cons c n =>
    have ha := hl a (List.mem_cons_self ..)
    have hb := hm b (List.mem_cons_self ..)
    have hc := hn c (List.mem_cons_self ..)
    have t := h.tr a b c ha hb hc
    have t2 := ih m n (fun x hx => hl x (List.mem_cons_of_mem _ hx)) (fun x hx => hm x (List.mem_cons_of_mem _ hx)) (fun x hx => hn x (List.mem_cons_of_mem _ hx))
    simp only [lexF]
    by_cases h1 : f a b = 0
    ·have e := h.l0 ha hb hc h1
     by_cases h3 : f b c = 0
     ·rw [if_neg (by omega), if_neg (by omega), if_neg (by omega)]; exact t2
     ·rw [if_neg (by omega), if_pos h3, if_pos (by omega)]
      intro _ k2
      exact ⟨by omega, fun _ => by omega⟩
    ·by_cases h3 : f b c = 0
     ·have e := h.r0 ha hb hc h3
      rw [if_pos h1, if_neg (by omega), if_pos (by omega)]
      intro k1 _
      exact ⟨by omega, fun _ => by omega⟩
     ·rw [if_pos h1, if_pos h3]
      intro k1 k2
      have := (t k1 k2).2 (.inl (by omega))
      rw [if_pos (by omega)]
      exact ⟨by omega, fun _ => this⟩
theorem vcmpS_lex : ∀ s t : Str, vcmpS s t = lexF (fun a b : UInt8 => sgn a.toNat b.toNat) s t
 | [], [] => rfl
 | [], _ :: _ => rfl
 | _ :: _, [] => rfl
 | a :: s, b :: t => by
  simp only [vcmpS, lexF, vcmpS_lex s t]
  by_cases h : a = b
  ·subst h; rw [sgn_self]; simp
  ·have : ¬ sgn a.toNat b.toNat = 0 := fun e => h (UInt8.toNat_inj.1 (by have := sgn_zero.1 e; omega))
   rw [if_neg h, if_pos this]
theorem Lin.txt : Lin vcmpS fun _ => True := by
 have h := (Lin.sgn.comp (fun a : UInt8 => (a.toNat : Int))).lex
 have e : vcmpS = lexF (fun a b : UInt8 => Sx.sgn a.toNat b.toNat) := funext fun s => funext fun t => vcmpS_lex s t
 rw [e]
 exact h.sub fun _ _ _ _ => trivial
theorem Lin.dig : Lin cmpD fun _ => True := by
 have h := (Lin.sgn.comp (fun a : Str => (a.length : Int))).or Lin.txt
 have e : cmpD = fun a b : Str => if Sx.sgn a.length b.length ≠ 0 then Sx.sgn a.length b.length else vcmpS a b := funext fun a => funext fun b => by
  unfold cmpD
  by_cases hl : a.length = b.length
  ·rw [if_pos hl, if_neg (by rw [hl, sgn_self]; simp)]
  ·rw [if_neg hl, if_pos (fun e => hl (by have := sgn_zero.1 e; omega))]
 rw [e]; exact h
theorem Lin.bigs : Lin cmpB fun _ => True := by
 have h := Lin.sel (α := Str) (P := fun _ => True) (κ := fun s => if isMin s then 0 else 1) (B := fun k a b => if k = 0 then cmpD b.tail a.tail else cmpD a b) Lin.sgn fun k => by
  by_cases hk : k = 0
  ·subst hk
   simp only [if_true]
   exact (Lin.dig.swap.comp List.tail)
  ·simp only [if_neg hk]
   exact Lin.dig
 have e : cmpB = fun a b : Str => if (if isMin a then (0 : Int) else 1) ≠ (if isMin b then 0 else 1) then Sx.sgn (if isMin a then 0 else 1) (if isMin b then 0 else 1) else (if (if isMin a then (0 : Int) else 1) = 0 then cmpD b.tail a.tail else cmpD a b) := funext fun a => funext fun b => by
  unfold cmpB
  cases ha : isMin a <;> cases hb : isMin b <;> simp [Sx.sgn]
 rw [e]; exact h
theorem cmpVs_lex : ∀ l m : List V, cmpVs l m = lexF cmpV l m
 | [], [] => rfl
 | [], _ :: _ => rfl
 | _ :: _, [] => rfl
 | v :: l, w :: m => by simp only [cmpVs, lexF, cmpVs_lex l m]
theorem Lin.vals : ∀ n : Nat, Lin cmpV fun v => vsize v ≤ n := by
 intro n
 induction n with
 | zero => exact ⟨fun a b ha => by obtain ⟨k, n, s, l⟩ := a; simp [vsize] at ha, fun a b ha => by obtain ⟨k, n, s, l⟩ := a; simp [vsize] at ha, fun a b c ha => by obtain ⟨k, n, s, l⟩ := a; simp [vsize] at ha⟩
 | succ n ih =>
  have hl : Lin (fun v w : V => cmpVs v.l w.l) fun v => vsize v ≤ n + 1 := by
   have h := (ih.lex).comp V.l
   have e : (fun v w : V => cmpVs v.l w.l) = fun v w : V => lexF cmpV v.l w.l := funext fun v => funext fun w => cmpVs_lex _ _
   rw [e]
   exact h.sub fun v hv x hx => by have := vsize_l hx; omega
  have hs : Lin (fun v w : V => vcmpS v.s w.s) fun v => vsize v ≤ n + 1 := (Lin.txt.comp V.s).sub fun _ _ => trivial
  have h := Lin.sel (α := V) (P := fun v => vsize v ≤ n + 1) (κ := V.k) (B := fun k v w => if k = 3 then cmpB v.s w.s else if k = 4 then vcmpS v.s w.s else if k = 5 then cmpVs v.l w.l else if k = 6 then (if vcmpS v.s w.s ≠ 0 then vcmpS v.s w.s else cmpVs v.l w.l) else Sx.sgn v.n w.n) Lin.sgn fun k => by
   by_cases h3 : k = 3
   ·simp only [if_pos h3]; exact (Lin.bigs.comp V.s).sub fun _ _ => trivial
   simp only [if_neg h3]
   by_cases h4 : k = 4
   ·simp only [if_pos h4]; exact hs
   simp only [if_neg h4]
   by_cases h5 : k = 5
   ·simp only [if_pos h5]; exact hl
   simp only [if_neg h5]
   by_cases h6 : k = 6
   ·simp only [if_pos h6]; exact hs.or hl
   simp only [if_neg h6]
   exact (Lin.sgn.comp V.n).sub fun _ _ => trivial
  have e : cmpV = fun v w : V => if v.k ≠ w.k then Sx.sgn v.k w.k else if v.k = 3 then cmpB v.s w.s else if v.k = 4 then vcmpS v.s w.s else if v.k = 5 then cmpVs v.l w.l else if v.k = 6 then (if vcmpS v.s w.s ≠ 0 then vcmpS v.s w.s else cmpVs v.l w.l) else Sx.sgn v.n w.n := funext fun v => funext fun w => cmpV_eq v w
  rw [e]; exact h
theorem Lin.val : Lin cmpV fun _ => True := by
 refine ⟨fun a b _ _ => ?_, fun a b _ _ => ?_, fun a b c _ _ _ => ?_⟩
 ·exact (Lin.vals (vsize a + vsize b)).anti a b (by omega) (by omega)
 ·exact (Lin.vals (vsize a + vsize b)).rng a b (by omega) (by omega)
 ·exact (Lin.vals (vsize a + vsize b + vsize c)).tr a b c (by omega) (by omega) (by omega)
theorem Lin.vs : Lin cmpVs fun _ => True := by
 have e : cmpVs = lexF cmpV := funext fun l => funext fun m => cmpVs_lex l m
 rw [e]
 exact Lin.val.lex.sub fun _ _ _ _ => trivial
theorem Lin.row : Lin cmpR fun _ => True := by
 have h := Lin.sel (α := List V) (P := fun _ => True) (κ := fun l => if mayR l then 0 else 1) (B := fun k a b => if k = 0 then cmpVs a b else 0) Lin.sgn fun k => by
  by_cases hk : k = 0
  ·simp only [if_pos hk]; exact Lin.vs
  ·simp only [if_neg hk]
   exact ⟨fun _ _ _ _ => rfl, fun _ _ _ _ => by simp, fun _ _ _ _ _ _ _ _ => by simp⟩
 have e : cmpR = fun a b : List V => if (if mayR a then (0 : Int) else 1) ≠ (if mayR b then 0 else 1) then Sx.sgn (if mayR a then 0 else 1) (if mayR b then 0 else 1) else (if (if mayR a then (0 : Int) else 1) = 0 then cmpVs a b else 0) := funext fun a => funext fun b => by
  unfold cmpR lastB
  cases ha : mayR a <;> cases hb : mayR b <;> simp [Sx.sgn]
 rw [e]; exact h
theorem cmpD_zero {a b : Str} (h : cmpD a b = 0) : a = b := by
 unfold cmpD at h
 by_cases hl : a.length = b.length
 ·rw [if_pos hl] at h; exact (vslt a b).2.1.1 h
 ·rw [if_neg hl] at h; exact absurd (sgn_zero.1 h) (by omega)
theorem isMin_cons {a : Str} (h : isMin a = true) : a = 45 :: a.tail := by
 cases a with
 | nil => simp [isMin] at h
 | cons c a => simp [isMin] at h; rw [h]; rfl
theorem cmpB_zero {a b : Str} (h : cmpB a b = 0) : a = b := by
 unfold cmpB at h
 cases ha : isMin a <;> cases hb : isMin b <;> rw [ha, hb] at h
 ·exact cmpD_zero (by simpa using h)
 ·simp at h
 ·simp at h
 ·have := cmpD_zero (by simpa using h)
  rw [isMin_cons ha, isMin_cons hb, this]
theorem cmpV_zero {v w : V} (hv : formV v = true) (hw : formV w = true) (h : cmpV v w = 0) : v = w := by
 have key : ∀ n, ∀ v w : V, vsize v ≤ n → formV v = true → formV w = true → cmpV v w = 0 → v = w := by
  intro n
  induction n with
  | zero => intro v w hn; obtain ⟨k, n, s, l⟩ := v; simp [vsize] at hn
  | succ n ih =>
   intro v w hn hv hw h
   have hrow : ∀ l m : List V, (∀ x ∈ l, vsize x ≤ n) → formVs l = true → formVs m = true → cmpVs l m = 0 → l = m := by
    intro l
    induction l with
    | nil => intro m _ _ _ h; cases m with
     | nil => rfl
     | cons w m => simp [cmpVs] at h
    | cons a l ihl =>
     intro m hn hl hm h
     cases m with
     | nil => simp [cmpVs] at h
     | cons b m =>
      simp only [cmpVs] at h
      simp only [formVs, Bool.and_eq_true] at hl hm
      split at h
      ·rename_i h1; exact absurd h h1
      ·rename_i h1
       have h1 : cmpV a b = 0 := by omega
       rw [ih a b (hn a (List.mem_cons_self ..)) hl.1 hm.1 h1, ihl m (fun x hx => hn x (List.mem_cons_of_mem _ hx)) hl.2 hm.2 h]
   have hvl : ∀ x ∈ v.l, vsize x ≤ n := fun x hx => by have := vsize_l hx; omega
   rw [formV_eq, Bool.and_eq_true] at hv hw
   rw [cmpV_eq] at h
   have ext : v.k = w.k → v.n = w.n → v.s = w.s → v.l = w.l → v = w := by
    intro e1 e2 e3 e4
    obtain ⟨k, n1, s, l⟩ := v
    obtain ⟨k', n1', s', l'⟩ := w
    have e1 : k = k' := e1
    have e2 : n1 = n1' := e2
    have e3 : s = s' := e3
    have e4 : l = l' := e4
    rw [e1, e2, e3, e4]
   by_cases hk : v.k = w.k
   ·rw [if_neg (by simp [hk])] at h
    rcases okN_kinds hv.1 with ⟨e, e1, e2⟩ | ⟨e, e1, e2⟩ | ⟨e, e1, e2⟩ | ⟨e, e1, e2⟩ | ⟨e, e1, e2⟩ | ⟨e, e1⟩ <;>
    rcases okN_kinds hw.1 with ⟨f, f1, f2⟩ | ⟨f, f1, f2⟩ | ⟨f, f1, f2⟩ | ⟨f, f1, f2⟩ | ⟨f, f1, f2⟩ | ⟨f, f1⟩ <;> try (exfalso; omega)
    ·rw [if_neg (by omega), if_neg (by omega), if_neg (by omega), if_neg (by omega)] at h
     exact ext hk (sgn_zero.1 h) (e1.trans f1.symm) ((List.length_eq_zero_iff.1 e2).trans (List.length_eq_zero_iff.1 f2).symm)
    ·rw [if_neg (by omega), if_neg (by omega), if_neg (by omega), if_neg (by omega)] at h
     exact ext hk (sgn_zero.1 h) (e1.trans f1.symm) ((List.length_eq_zero_iff.1 e2).trans (List.length_eq_zero_iff.1 f2).symm)
    ·rw [if_pos e] at h
     exact ext hk (e1.trans f1.symm) (cmpB_zero h) ((List.length_eq_zero_iff.1 e2).trans (List.length_eq_zero_iff.1 f2).symm)
    ·rw [if_neg (by omega), if_pos e] at h
     exact ext hk (e1.trans f1.symm) ((vslt v.s w.s).2.1.1 h) ((List.length_eq_zero_iff.1 e2).trans (List.length_eq_zero_iff.1 f2).symm)
    ·rw [if_neg (by omega), if_neg (by omega), if_pos e] at h
     exact ext hk (e1.trans f1.symm) (e2.trans f2.symm) (hrow v.l w.l hvl hv.2 hw.2 h)
    ·rw [if_neg (by omega), if_neg (by omega), if_neg (by omega), if_pos e] at h
     split at h
     ·rename_i h1; exact absurd h h1
     ·rename_i h1
      exact ext hk (e1.trans f1.symm) ((vslt v.s w.s).2.1.1 (by omega)) (hrow v.l w.l hvl hv.2 hw.2 h)
   ·rw [if_pos hk] at h; exact absurd (sgn_zero.1 h) hk
 exact key _ v w (Nat.le_refl _) hv hw h
theorem cmpVs_zero : ∀ {l m : List V}, mayR l = true → mayR m = true → cmpVs l m = 0 → l = m
 | [], [], _, _, _ => rfl
 | [], _ :: _, _, _, h => by simp [cmpVs] at h
 | _ :: _, [], _, _, h => by simp [cmpVs] at h
 | v :: l, w :: m, hl, hm, h => by
  simp only [cmpVs] at h
  simp only [mayR, List.all_cons, Bool.and_eq_true] at hl hm
  split at h
  ·rename_i h1; exact absurd h h1
  ·rename_i h1
   rw [cmpV_zero (mayV_form hl.1) (mayV_form hm.1) (by omega), cmpVs_zero (l := l) (m := m) hl.2 hm.2 h]
theorem cmpR_zero {l m : List V} (hl : mayR l = true) (hm : mayR m = true) : cmpR l m = 0 ↔ l = m := by
 refine ⟨fun h => ?_, fun h => by rw [h]; exact Lin.row.refl trivial⟩
 unfold cmpR at h
 rw [if_pos ⟨hl, hm⟩] at h
 exact cmpVs_zero hl hm h
end Sx
end

noncomputable section
set_option linter.unusedVariables false
set_option linter.unusedSimpArgs false
namespace Sx
open Go Go.Proofs
section
variable {α : Type} {κ : α → α → Int} {ι : α → Nat} {P : α → Prop}
/-- stands ahead; of two alike the one that was ahead -/
def Bf (κ : α → α → Int) (ι : α → Nat) (x y : α) : Prop := κ x y < 0 ∨ (κ x y = 0 ∧ ι x < ι y)
theorem Bf.le {x y : α} (h : Bf κ ι x y) : κ x y ≤ 0 := by rcases h with h | h <;> omega
theorem Bf.of {x y : α} (h : κ x y ≤ 0) (hi : ι x < ι y) : Bf κ ι x y := by
 rcases Int.lt_or_eq_of_le h with h | h
 ·exact .inl h
 ·exact .inr ⟨h, hi⟩
theorem pw_mid {R : α → α → Prop} {Y : List α} (h : Y.Pairwise R) {i : Nat} (hi : i < Y.length) : (∀ y ∈ Y.take i, R y Y[i]) ∧ (∀ y ∈ Y.drop (i + 1), R Y[i] y) := by
 have h' : (Y.take i ++ Y[i] :: Y.drop (i + 1)).Pairwise R := by rw [← List.drop_eq_getElem_cons hi, List.take_append_drop]; exact h
 rw [List.pairwise_append] at h'
 exact ⟨fun y hy => h'.2.2 y hy _ (List.mem_cons_self ..), fun y hy => (List.pairwise_cons.1 h'.2.1).1 y hy⟩
theorem pw_split {R : α → α → Prop} {Y : List α} (h : Y.Pairwise R) (i : Nat) : (Y.take i).Pairwise R ∧ (Y.drop i).Pairwise R ∧ ∀ x ∈ Y.take i, ∀ y ∈ Y.drop i, R x y := by
 have h' : (Y.take i ++ Y.drop i).Pairwise R := by rw [List.take_append_drop]; exact h
 exact List.pairwise_append.1 h'
theorem eq_mid {Y : List α} {i : Nat} (hi : i < Y.length) : Y = Y.take i ++ Y[i] :: Y.drop (i + 1) := by rw [← List.drop_eq_getElem_cons hi, List.take_append_drop]
theorem mem_take {Y : List α} {i : Nat} {x : α} (h : x ∈ Y.take i) : x ∈ Y := List.mem_of_mem_take h
theorem mem_drop {Y : List α} {i : Nat} {x : α} (h : x ∈ Y.drop i) : x ∈ Y := List.mem_of_mem_drop h
theorem snoc_of {Y : List α} (h : Y ≠ []) : ∃ Z z, Y = Z ++ [z] := ⟨Y.dropLast, Y.getLast h, (List.dropLast_concat_getLast h).symm⟩
/-- one, then many -/
theorem ins1 (hL : Lin κ P) {x : α} {Y1 Y2 : List α} (hY : (Y1 ++ Y2).Pairwise (Bf κ ι)) (hPx : P x) (hPY : ∀ y ∈ Y1 ++ Y2, P y) (h1 : ∀ y ∈ Y1, κ y x < 0) (h2 : ∀ y ∈ Y2, ¬ κ y x < 0) (hi : ∀ y ∈ Y1 ++ Y2, ι x < ι y) : (Y1 ++ x :: Y2).Pairwise (Bf κ ι) := by
 rw [List.pairwise_append] at hY ⊢
 refine ⟨hY.1, List.pairwise_cons.2 ⟨fun y hy => ?_, hY.2.1⟩, fun y hy z hz => ?_⟩
 ·have hm := List.mem_append_right Y1 hy
  have := hL.anti y x (hPY y hm) hPx
  have := h2 y hy
  exact Bf.of (by omega) (hi y hm)
 ·rcases List.mem_cons.1 hz with rfl | hz
  ·exact .inl (h1 y hy)
  ·exact hY.2.2 y hy z hz
/-- many, then one -/
theorem ins2 (hL : Lin κ P) {y : α} {X1 X2 : List α} (hX : (X1 ++ X2).Pairwise (Bf κ ι)) (hPy : P y) (hPX : ∀ x ∈ X1 ++ X2, P x) (h1 : ∀ x ∈ X1, ¬ κ y x < 0) (h2 : ∀ x ∈ X2, κ y x < 0) (hi : ∀ x ∈ X1 ++ X2, ι x < ι y) : (X1 ++ y :: X2).Pairwise (Bf κ ι) := by
 rw [List.pairwise_append] at hX ⊢
 refine ⟨hX.1, List.pairwise_cons.2 ⟨fun x hx => .inl (h2 x hx), hX.2.1⟩, fun x hx z hz => ?_⟩
 rcases List.mem_cons.1 hz with rfl | hz
 ·have hm := List.mem_append_left X2 hx
  have := hL.anti z x hPy (hPX x hm)
  have := h1 x hx
  exact Bf.of (by omega) (hi x hm)
 ·exact hX.2.2 x hx z hz
/-- what was sorted by blocks -/
inductive Ch (κ : α → α → Int) (ι : α → Nat) (bs : Nat) : List α → List α → Prop
 | last {Z L : List α} : L.length < bs → Z.Perm L → Z.Pairwise (Bf κ ι) → Ch κ ι bs Z L
 | cons {Z L Z' L' : List α} : L.length = bs → Z.Perm L → Z.Pairwise (Bf κ ι) → Ch κ ι bs Z' L' → Ch κ ι bs (Z ++ Z') (L ++ L')
theorem Ch.perm {bs : Nat} {Z L : List α} (h : Ch κ ι bs Z L) : Z.Perm L := by
 induction h with
 | last _ h _ => exact h
 | cons _ h _ _ ih => exact h.append ih
theorem Ch.big {bs : Nat} {Z L : List α} (h : Ch κ ι bs Z L) (hl : bs ≤ L.length) : ∃ Z1 Z2 L1 L2, Z = Z1 ++ Z2 ∧ L = L1 ++ L2 ∧ L1.length = bs ∧ Z1.Perm L1 ∧ Z1.Pairwise (Bf κ ι) ∧ Ch κ ι bs Z2 L2 := by
 cases h with
 | last h _ _ => omega
 | cons h1 h2 h3 h4 => exact ⟨_, _, _, _, rfl, rfl, h1, h2, h3, h4⟩
theorem Ch.small {bs : Nat} {Z L : List α} (h : Ch κ ι bs Z L) (hl : L.length < bs) : Z.Pairwise (Bf κ ι) := by
 cases h with
 | last _ _ h => exact h
 | cons h1 h2 h3 h4 => rw [List.length_append] at hl; omega
theorem Ch.all {bs : Nat} {Z L : List α} (h : Ch κ ι bs Z L) (hl : L.length ≤ bs) (h0 : 0 < bs) : Z.Pairwise (Bf κ ι) := by
 cases h with
 | last _ _ h => exact h
 | @cons Z1 L1 Z2 L2 h1 h2 h3 h4 =>
  rw [List.length_append] at hl
  have hp := h4.perm.length_eq
  have e : Z2 = [] := List.length_eq_zero_iff.1 (by rw [hp]; omega)
  rw [e, List.append_nil]; exact h3
end
theorem half_ok {a b : Nat} (h : a + b ≤ 4611686018427387904) : w .i64 (sShr .u64 (w .u64 (w .i64 ((a : Int) + (b : Int)))) 1) = (((a + b) / 2 : Nat) : Int) := by
 have e1 : w .u64 ((a : Int) + b) = (a : Int) + b := by
  exact w_u64 (by omega) (by omega)
 have e2 : sShr .u64 ((a : Int) + b) 1 = (((a + b) / 2 : Nat) : Int) := by
  unfold sShr
  have : (2 : Int) ^ (min (1 : Int).toNat IntKind.u64.bits) = 2 := by decide
  rw [this, Int.fdiv_eq_ediv_of_nonneg _ (by omega)]; omega
 rw [w_i64 (x := (a : Int) + b) (by omega) (by omega), e1, e2, w_i64 (by omega) (by omega)]
end Sx
end

noncomputable section
set_option linter.unusedVariables false
set_option linter.unusedSimpArgs false
namespace Sx
open Go Go.Proofs
section
variable {α β : Type} {κ : α → α → Int} {ι : α → Nat} {P : α → Prop}
/-- of each kind the first one, rising -/
structure Rep (κ : α → α → Int) (ι : α → Nat) (L A : List α) : Prop where
 asc : A.Pairwise fun a b => κ a b < 0
 sub : ∀ y ∈ A, y ∈ L
 all : ∀ x ∈ L, ∃ y ∈ A, κ y x = 0
 fst : ∀ y ∈ A, ∀ x ∈ L, κ y x = 0 → x = y ∨ ι y < ι x
theorem Rep.perm {L M A : List α} (h : Rep κ ι L A) (hp : L.Perm M) : Rep κ ι M A :=
 ⟨h.asc, fun y hy => hp.mem_iff.1 (h.sub y hy), fun x hx => h.all x (hp.mem_iff.2 hx), fun y hy x hx => h.fst y hy x (hp.mem_iff.2 hx)⟩
theorem asc_ext (hL : Lin κ P) : ∀ {A B : List α}, A.Pairwise (fun a b => κ a b < 0) → B.Pairwise (fun a b => κ a b < 0) → (∀ x ∈ A, P x) → (∀ x, x ∈ A ↔ x ∈ B) → A = B
 | [], [], _, _, _, _ => rfl
 | [], b :: B, _, _, _, h => absurd ((h b).2 (List.mem_cons_self ..)) (by simp)
 | a :: A, [], _, _, _, h => absurd ((h a).1 (List.mem_cons_self ..)) (by simp)
 | a :: A, b :: B, hA, hB, hP, h => by
  rw [List.pairwise_cons] at hA hB
  have hab : a = b := by
   rcases List.mem_cons.1 ((h a).1 (List.mem_cons_self ..)) with e | e
   ·exact e
   rcases List.mem_cons.1 ((h b).2 (List.mem_cons_self ..)) with e2 | e2
   ·exact e2.symm
   have h1 := hB.1 a e
   have h2 := hA.1 b e2
   have := hL.anti a b (hP a (List.mem_cons_self ..)) (hP b ((h b).2 (List.mem_cons_self ..)))
   omega
  subst hab
  have hr := hL.refl (hP a (List.mem_cons_self ..))
  rw [asc_ext hL hA.2 hB.2 (fun x hx => hP x (List.mem_cons_of_mem _ hx)) fun x => ⟨fun hx => ?_, fun hx => ?_⟩]
  ·rcases List.mem_cons.1 ((h x).1 (List.mem_cons_of_mem _ hx)) with e | e
   ·have := hA.1 x hx; rw [e] at this; omega
   ·exact e
  ·rcases List.mem_cons.1 ((h x).2 (List.mem_cons_of_mem _ hx)) with e | e
   ·have := hB.1 x hx; rw [e] at this; omega
   ·exact e
theorem Rep.uniq (hL : Lin κ P) {L A B : List α} (hP : ∀ x ∈ L, P x) (ha : Rep κ ι L A) (hb : Rep κ ι L B) : A = B := by
 have key : ∀ {A B : List α}, Rep κ ι L A → Rep κ ι L B → ∀ x ∈ A, x ∈ B := fun {A B} ha hb x hx => by
  have hxl := ha.sub x hx
  obtain ⟨z, hz, e⟩ := hb.all x hxl
  have hzl := hb.sub z hz
  have e2 := hL.anti x z (hP x hxl) (hP z hzl)
  rcases hb.fst z hz x hxl e with h | h
  ·rw [h]; exact hz
  rcases ha.fst x hx z hzl (by omega) with h2 | h2
  ·rw [← h2]; exact hz
  ·omega
 exact asc_ext hL ha.asc hb.asc (fun x hx => hP x (ha.sub x hx)) fun x => ⟨key ha hb x, key hb ha x⟩
end
end Sx
end

noncomputable section
set_option linter.unusedVariables false
set_option linter.unusedSimpArgs false
namespace Sx
open Go Go.Proofs
def Heap.new (H H2 : Heap) : Heap := fun x => if (H x).isSome then none else H2 x
theorem Heap.new_some {H H2 : Heap} {x : Nat} {e : Bool × GO} (h : H2 x = some e) (hn : H x = none) : Heap.new H H2 x = some e := by
 unfold Heap.new; rw [hn]; exact h
theorem Heap.new_inv {H H2 : Heap} {x : Nat} {e : Bool × GO} (h : Heap.new H H2 x = some e) : H x = none ∧ H2 x = some e := by
 unfold Heap.new at h
 cases hx : H x with
 | none => rw [hx] at h; exact ⟨rfl, h⟩
 | some y => rw [hx] at h; cases h
theorem Heap.new_le (H H2 : Heap) : (Heap.new H H2).le H2 := fun x e h => (Heap.new_inv h).2
/-- a row of values that may be written over, with all that is in it: its blocks are N's; k deep at most -/
def Sp (N : Nat → Prop) (H : Heap) : Nat → Sl → Prop
 | 0, t => t.len = 0
 | k + 1, t => t.len = 0 ∨ ∃ (b : Nat) (xs : List TV) (sp : List Value), N b ∧ t.p = some (b, 0) ∧ t.x = none ∧ H b = some (true, .row (xs.flatMap T_api_Value.c ++ sp)) ∧ (t.len ≤ xs.length ∧ xs.length ≤ 1000000) ∧ ∀ x ∈ xs, Sp N H k x.L
section
variable {N M : Nat → Prop} {H H2 : Heap}
theorem Sp.nil (k : Nat) {t : Sl} (h : t.len = 0) : Sp N H k t := by
 cases k with
 | zero => exact h
 | succ k => exact .inl h
theorem Sp.mono : ∀ {k : Nat} {t : Sl}, Sp N H k t → Sp N H (k + 1) t
 | 0, t, h => .inl h
 | k + 1, t, .inl h => .inl h
 | k + 1, t, .inr ⟨b, xs, sp, h1, h2, h3, h4, h5, h6⟩ => .inr ⟨b, xs, sp, h1, h2, h3, h4, h5, fun x hx => Sp.mono (h6 x hx)⟩
theorem Sp.up {k m : Nat} {t : Sl} (h : Sp N H k t) (hk : k ≤ m) : Sp N H m t := by
 induction hk with
 | refl => exact h
 | step _ ih => exact ih.mono
theorem Sp.to (h : ∀ b e, N b → H b = some e → M b ∧ H2 b = some e) : ∀ {k : Nat} {t : Sl}, Sp N H k t → Sp M H2 k t
 | 0, t, h0 => h0
 | k + 1, t, .inl h0 => .inl h0
 | k + 1, t, .inr ⟨b, xs, sp, h1, h2, h3, h4, h5, h6⟩ => .inr ⟨b, xs, sp, (h b _ h1 h4).1, h2, h3, (h b _ h1 h4).2, h5, fun x hx => Sp.to h (h6 x hx)⟩
theorem Sp.all : ∀ {xs : List TV}, (∀ x ∈ xs, ∃ k, Sp N H k x.L) → ∃ k, ∀ x ∈ xs, Sp N H k x.L
 | [], _ => ⟨0, fun x hx => by cases hx⟩
 | y :: xs, h => by
  obtain ⟨k, hk⟩ := h y (List.mem_cons_self ..)
  obtain ⟨m, hm⟩ := Sp.all (xs := xs) fun x hx => h x (List.mem_cons_of_mem _ hx)
  refine ⟨max k m, fun x hx => ?_⟩
  rcases List.mem_cons.1 hx with rfl | hx
  ·exact hk.up (Nat.le_max_left ..)
  ·exact (hm x hx).up (Nat.le_max_right ..)
/-- what a copy is -/
structure Made (H H2 : Heap) (l : List V) (t : Sl) : Prop where
 le : H.le H2
 row : VRow (Heap.new H H2) t l
 sp : ∃ k, Sp (fun b => H b = none) H2 k t
theorem Made.row2 {l : List V} {t : Sl} (h : Made H H2 l t) : VRow H2 t l := h.row.le (Heap.new_le _ _)
theorem Made.up {H3 : Heap} {l : List V} {t : Sl} (h : Made H H2 l t) (hle : H2.le H3) : Made H H3 l t := by
 refine ⟨h.le.trans hle, h.row.le fun x e hx => ?_, ?_⟩
 ·obtain ⟨a, b⟩ := Heap.new_inv hx
  exact Heap.new_some (hle _ _ b) a
 ·obtain ⟨k, hk⟩ := h.sp
  exact ⟨k, hk.to fun b e h he => ⟨h, hle b e he⟩⟩
theorem Made.down {H0 : Heap} {l : List V} {t : Sl} (h : Made H H2 l t) (hle : H0.le H) : Made H0 H2 l t := by
 refine ⟨hle.trans h.le, h.row.le fun x e hx => ?_, ?_⟩
 ·obtain ⟨a, b⟩ := Heap.new_inv hx
  exact Heap.new_some b (hle.none a)
 ·obtain ⟨k, hk⟩ := h.sp
  exact ⟨k, hk.to fun b e h he => ⟨hle.none h, he⟩⟩
theorem Made.nil {H : Heap} {t : Sl} (h : t.len = 0) : Made H H [] t := ⟨Heap.le.refl _, ⟨[], .inl rfl, by simpa using h, trivial⟩, 0, h⟩
theorem vsizes_len : ∀ l : List V, l.length ≤ vsizes l
 | [] => Nat.le_refl _
 | v :: l => by
  have := vsizes_len l
  have hv : vsize v = vsizes v.l + 1 := by cases v; rfl
  simp only [vsizes, List.length_cons]; omega
theorem flat4 : ∀ xs : List TV, (xs.flatMap T_api_Value.c).length = xs.length * 4
 | [] => rfl
 | x :: xs => by rw [List.flatMap_cons, List.length_append, flat4 xs, TV.c_len, List.length_cons]; omega
theorem set_L {t : Sl} {sp : List Value} : ∀ (xs : List TV) (i : Nat) (hi : i < xs.length), ((xs.flatMap T_api_Value.c) ++ sp).set (i * 4 + 3) (slv t) = (xs.set i { xs[i] with L := t }).flatMap T_api_Value.c ++ sp
 | [], i, hi => by simp at hi
 | x :: xs, 0, hi => by
  simp only [List.flatMap_cons, List.getElem_cons_zero, List.set_cons_zero]
  rfl
 | x :: xs, i + 1, hi => by
  have ih := set_L (t := t) (sp := sp) xs i (by simpa using hi)
  simp only [List.flatMap_cons, List.set_cons_succ, List.getElem_cons_succ, List.append_assoc]
  have e : (i + 1) * 4 + 3 = (T_api_Value.c x).length + (i * 4 + 3) := by rw [TV.c_len]; omega
  rw [← ih, e, List.set_append_right _ _ (Nat.le_add_right ..), Nat.add_sub_cancel_left]
/-- the copy's loop: what stands in the copy's block b over B -/
structure Ow (A H B : Heap) (b i : Nat) (l : List V) (xs ys : List TV) : Prop where
 le : H.le B
 ale : A.le B
 nb : B b = none
 len : ys.length = l.length
 xlen : xs.length = l.length
 old : VsAre A l xs
 rest : ∀ j, i ≤ j → ys[j]? = xs[j]?
 done : ∀ (j : Nat) (v : V) (x : TV), j < i → l[j]? = some v → ys[j]? = some x → VIs (Heap.new H B) v x ∧ ∃ k, Sp (fun c => H c = none) B k x.L
theorem Ow.step {A B B2 : Heap} {b i : Nat} {l : List V} {xs ys : List TV} {sp : List Value} {t : Sl} (h : Ow A H B b i l xs ys) (hi : i < l.length) (hi2 : i < ys.length)
 (hm : Made (B.put b (.row (ys.flatMap T_api_Value.c ++ sp))) B2 l[i].l t) :
 Ow A H (B2.del b) b (i + 1) l xs (ys.set i { ys[i] with L := t }) ∧ B2.put b (.row (((ys.set i { ys[i] with L := t }).flatMap T_api_Value.c) ++ sp)) = (B2.del b).put b (.row (((ys.set i { ys[i] with L := t }).flatMap T_api_Value.c) ++ sp)) := by
 have hb : B.le (B2.del b) := fun x e hx => by
  have hne : x ≠ b := fun e' => by rw [e', h.nb] at hx; cases hx
  rw [Heap.del_ne _ hne]
  exact hm.le _ _ (by rw [Heap.put_ne _ _ _ hne]; exact hx)
 have hnn : (Heap.new H B).le (Heap.new H (B2.del b)) := fun x e hx => by
  obtain ⟨a, c⟩ := Heap.new_inv hx
  exact Heap.new_some (hb _ _ c) a
 have hPN : ∀ c, (B.put b (.row (ys.flatMap T_api_Value.c ++ sp))) c = none → H c = none ∧ c ≠ b := fun c hc => by
  have hne : c ≠ b := fun e' => by rw [e', Heap.put_same] at hc; cases hc
  rw [Heap.put_ne _ _ _ hne] at hc
  exact ⟨h.le.none hc, hne⟩
 refine ⟨⟨h.le.trans hb, h.ale.trans hb, Heap.del_same .., by rw [List.length_set]; exact h.len, h.xlen, h.old, fun j hj => ?_, fun j v x hj hv hx => ?_⟩, ?_⟩
 ·rw [List.getElem?_set_ne (by omega)]; exact h.rest j (by omega)
 ·by_cases hji : j = i
  ·subst hji
   rw [List.getElem?_set_self hi2] at hx
   have hx := Option.some.inj hx
   rw [List.getElem?_eq_getElem hi] at hv
   have hv := Option.some.inj hv
   subst hx; subst hv
   have hxi := h.rest j (Nat.le_refl _)
   rw [List.getElem?_eq_getElem hi2] at hxi
   have hold := VIs_iff.1 (h.old.get j _ _ (List.getElem?_eq_getElem hi) hxi.symm)
   refine ⟨VIs_iff.2 ⟨hold.1, hold.2.1, hold.2.2.1, hm.row.le fun c e hc => ?_⟩, ?_⟩
   ·obtain ⟨a1, a2⟩ := Heap.new_inv hc
    obtain ⟨a3, a4⟩ := hPN c a1
    exact Heap.new_some (by rw [Heap.del_ne _ a4]; exact a2) a3
   ·obtain ⟨k, hk⟩ := hm.sp
    refine ⟨k, hk.to fun c e hc he => ⟨(hPN c hc).1, ?_⟩⟩
    rw [Heap.del_ne _ (hPN c hc).2]; exact he
  ·rw [List.getElem?_set_ne (by omega)] at hx
   obtain ⟨d1, k, d2⟩ := h.done j v x (by omega) hv hx
   exact ⟨d1.le hnn, k, d2.to fun c e h he => ⟨h, hb c e he⟩⟩
 ·funext x
  by_cases hx : x = b
  ·subst hx; rw [Heap.put_same, Heap.put_same]
  ·rw [Heap.put_ne _ _ _ hx, Heap.put_ne _ _ _ hx, Heap.del_ne _ hx]
theorem Ow.fin {A B : Heap} {b n cap : Nat} {l : List V} {xs ys : List TV} {sp : List Value} (h : Ow A H B b n l xs ys) (hn : n = l.length) (hb : H b = none) (hz : l.length ≤ 1000000) :
 Made H (B.put b (.row (ys.flatMap T_api_Value.c ++ sp))) l (Sl.of (some (b, 0)) n cap) := by
 have hBP : B.le (B.put b (.row (ys.flatMap T_api_Value.c ++ sp))) := Heap.le_put h.nb
 have hnn : (Heap.new H B).le (Heap.new H (B.put b (.row (ys.flatMap T_api_Value.c ++ sp)))) := fun x e hx => by
  obtain ⟨a, c⟩ := Heap.new_inv hx
  exact Heap.new_some (hBP _ _ c) a
 refine ⟨h.le.trans hBP, ⟨ys, .inr ⟨rfl, _, rfl, rds_row (Heap.new_some (Heap.put_same ..) hb) fun j v hj => ?_⟩, ?_, VsAre.of h.len.symm fun i v x hv hx => ?_⟩, ?_⟩
 ·rw [Nat.zero_add, List.getElem?_append_left (List.getElem?_eq_some_iff.1 hj).1]; exact hj
 ·show n = _; rw [hn, h.len]
 ·exact (h.done i v x (by rw [hn]; exact (List.getElem?_eq_some_iff.1 hv).1) hv hx).1.le hnn
 ·obtain ⟨k, hk⟩ : ∃ k, ∀ x ∈ ys, Sp (fun c => H c = none) B k x.L := Sp.all fun x hx => by
   obtain ⟨j, hj, e⟩ := List.getElem_of_mem hx
   have hl : j < l.length := by rw [← h.len]; exact hj
   exact (h.done j l[j] x (by omega) (List.getElem?_eq_getElem hl) (by rw [List.getElem?_eq_getElem hj, e])).2
  refine ⟨k + 1, .inr ⟨b, ys, sp, hb, rfl, rfl, Heap.put_same .., ⟨by show n ≤ _; rw [hn, h.len]; exact Nat.le_refl _, by rw [h.len]; exact hz⟩, fun x hx => (hk x hx).to fun c e h he => ⟨h, hBP c e he⟩⟩⟩
/-- a list that grows: what is made in it stands beside its own block -/
structure Od (H B : Heap) (l : List V) (s : Sl) (ys : List TV) : Prop where
 own : OwnF H B 4 s (ys.flatMap T_api_Value.c)
 le : ys.length ≤ l.length
 done : ∀ (j : Nat) (v : V) (x : TV), l[j]? = some v → ys[j]? = some x → VIs (Heap.new H (B.off s)) v x ∧ ∃ k, Sp (fun c => H c = none) (B.off s) k x.L
theorem Od.nil {l : List V} : Od H H l Sl.nil [] := ⟨OwnF.nil H 4, Nat.zero_le _, fun j v x _ hx => by simp at hx⟩
theorem Od.step {B B2 B3 B4 : Heap} {g : GO} {b : Nat} {l : List V} {s r t : Sl} {ys : List TV} {x : TV} (h : Od H B l s ys) (hb : B b = none) (hi : ys.length < l.length) (hm : Made (B.put b g) B2 l[ys.length].l t)
 (hx : x.Kind = l[ys.length].k ∧ x.N = l[ys.length].n ∧ x.S = l[ys.length].s) (hL : x.L = t) (h3 : Heap.but b B2 B3) (h4 : OwnF (B3.off s) B4 4 r (ys.flatMap T_api_Value.c ++ T_api_Value.c x)) : Od H B4 l r (ys ++ [x]) := by
 have hB2 : B.le B2 := (Heap.le_put hb).trans hm.le
 have hHb : H b = none := h.own.le.none hb
 have hB3 : H.le B3 := Heap.le.of_but (h.own.le.trans hB2) h3 hHb
 have hoff : (B.off s).le (B3.off s) := fun c e hc => by
  have hc' := Heap.off_le _ _ _ _ hc
  have hne : c ≠ b := fun e' => by rw [e', hb] at hc'; cases hc'
  refine Heap.off_some (h3 _ _ hne (hB2 _ _ hc')) fun p hp e' => ?_
  have := Heap.off_fresh s B p hp
  rw [e', hc] at this; cases this
 have h34 : (B3.off s).le (B4.off r) := Heap.le_off h4.le h4.fresh
 have hch : ∀ c e, (B.put b g) c = none → B2 c = some e → H c = none ∧ (B4.off r) c = some e := fun c e hn he => by
  have hne : c ≠ b := fun e' => by rw [e', Heap.put_same] at hn; cases hn
  rw [Heap.put_ne _ _ _ hne] at hn
  refine ⟨h.own.le.none hn, h34 _ _ (Heap.off_some (h3 _ _ hne he) fun p hp e' => ?_)⟩
  obtain ⟨g', hg'⟩ := h.own.own.mine hp
  rw [e', hn] at hg'; cases hg'
 have hnn : (Heap.new H (B.off s)).le (Heap.new H (B4.off r)) := fun c e hc => by
  obtain ⟨a1, a2⟩ := Heap.new_inv hc
  exact Heap.new_some (h34 _ _ (hoff _ _ a2)) a1
 refine ⟨?_, by rw [List.length_append]; exact hi, fun j v y hv hy => ?_⟩
 ·have e : (ys ++ [x]).flatMap T_api_Value.c = ys.flatMap T_api_Value.c ++ T_api_Value.c x := by rw [List.flatMap_append, List.flatMap_singleton]
  rw [e]
  exact h4.down (Heap.le_off hB3 h.own.fresh)
 ·by_cases hj : j < ys.length
  ·rw [List.getElem?_append_left hj] at hy
   obtain ⟨d1, k, d2⟩ := h.done j v y hv hy
   exact ⟨d1.le hnn, k, d2.to fun c e h he => ⟨h, h34 _ _ (hoff _ _ he)⟩⟩
  ·have hjl := (List.getElem?_eq_some_iff.1 hy).1
   rw [List.length_append, List.length_singleton] at hjl
   have hje : j = ys.length := by omega
   subst hje
   rw [List.getElem?_append_right (Nat.le_refl _), Nat.sub_self] at hy
   simp only [List.getElem?_cons_zero, Option.some.injEq] at hy
   rw [List.getElem?_eq_getElem hi] at hv
   have hv := Option.some.inj hv
   subst hy; subst hv
   refine ⟨VIs_iff.2 ⟨hx.1, hx.2.1, hx.2.2, ?_⟩, ?_⟩
   ·rw [hL]
    refine hm.row.le fun c e hc => ?_
    obtain ⟨a1, a2⟩ := Heap.new_inv hc
    obtain ⟨a3, a4⟩ := hch c e a1 a2
    exact Heap.new_some a4 a3
   ·obtain ⟨k, hk⟩ := hm.sp
    rw [hL]
    exact ⟨k, hk.to fun c e h he => hch c e h he⟩
theorem Od.fin {B : Heap} {l : List V} {s : Sl} {ys : List TV} (h : Od H B l s ys) (hn : ys.length = l.length) (hz : l.length ≤ 1000000) : Made H B l s := by
 have hnn : (Heap.new H (B.off s)).le (Heap.new H B) := fun x e hx => by
  obtain ⟨a, c⟩ := Heap.new_inv hx
  exact Heap.new_some (Heap.off_le _ _ _ _ c) a
 have hf := flat4 ys
 obtain ⟨o1, o2, o3, o4⟩ := h.own.own
 have hlen : s.len = ys.length := by omega
 have hvs : VsAre (Heap.new H B) l ys := VsAre.of hn.symm fun i v x hv hx => (h.done i v x hv hx).1.le hnn
 refine ⟨h.own.le, ⟨ys, ?_, hlen, hvs⟩, ?_⟩
 ·rcases o4 with ⟨p0, c0⟩ | ⟨b, sp, hp, hb, hc⟩
  ·left
   have : ys.length = 0 := by omega
   rw [List.length_eq_zero_iff.1 this]; rfl
  ·refine .inr ⟨o2, _, hp, rds_row (Heap.new_some hb (h.own.fresh _ hp)) fun j v hj => ?_⟩
   rw [Nat.zero_add, List.getElem?_append_left (List.getElem?_eq_some_iff.1 hj).1]; exact hj
 ·obtain ⟨k, hk⟩ : ∃ k, ∀ x ∈ ys, Sp (fun c => H c = none) B k x.L := Sp.all fun x hx => by
   obtain ⟨j, hj, e⟩ := List.getElem_of_mem hx
   have hl : j < l.length := by rw [← hn]; exact hj
   obtain ⟨_, k, hk⟩ := h.done j l[j] x (List.getElem?_eq_getElem hl) (by rw [List.getElem?_eq_getElem hj, e])
   exact ⟨k, hk.to fun c e h he => ⟨h, Heap.off_le _ _ _ _ he⟩⟩
  refine ⟨k + 1, ?_⟩
  rcases o4 with ⟨p0, c0⟩ | ⟨b, sp, hp, hb, hc⟩
  ·exact .inl (by omega)
  ·exact .inr ⟨b, ys, sp, h.own.fresh _ hp, hp, o2, hb, ⟨by omega, by omega⟩, hk⟩
/-- a list of rows that grows, each a copy -/
structure Og (H B : Heap) (ls : List (List V)) (s : Sl) (ys : List Sl) : Prop where
 own : OwnF H B 1 s (ys.map slv)
 le : ys.length ≤ ls.length
 done : ∀ (j : Nat) (l : List V) (y : Sl), ls[j]? = some l → ys[j]? = some y → Made H (B.off s) l y
theorem Og.nil {ls : List (List V)} : Og H H ls Sl.nil [] := ⟨OwnF.nil H 1, Nat.zero_le _, fun j l y _ hy => by simp at hy⟩
theorem Made.off {B : Heap} {l : List V} {s t : Sl} (h : Made B H2 l t) (hle : H.le B) (hf : Fresh H s) (hs : ∀ p, s.p = some p → ∃ g, B p.1 = some (true, g)) : Made H (H2.off s) l t := by
 have hne : ∀ c, B c = none → ∀ p, s.p = some p → p.1 ≠ c := fun c hc p hp e => by
  obtain ⟨g, hg⟩ := hs p hp
  rw [e, hc] at hg; cases hg
 refine ⟨Heap.le_off (hle.trans h.le) hf, h.row.le fun c e hc => ?_, ?_⟩
 ·obtain ⟨a, b⟩ := Heap.new_inv hc
  exact Heap.new_some (Heap.off_some b (hne c a)) (hle.none a)
 ·obtain ⟨k, hk⟩ := h.sp
  exact ⟨k, hk.to fun c e hc he => ⟨hle.none hc, Heap.off_some he (hne c hc)⟩⟩
theorem Og.step {B B2 B4 : Heap} {ls : List (List V)} {s r t : Sl} {ys : List Sl} (h : Og H B ls s ys) (hi : ys.length < ls.length) (hm : Made B B2 ls[ys.length] t) (h4 : OwnF (B2.off s) B4 1 r (ys.map slv ++ [slv t])) : Og H B4 ls r (ys ++ [t]) := by
 have hoff : H.le (B2.off s) := Heap.le_off (h.own.le.trans hm.le) h.own.fresh
 have h34 : (B2.off s).le (B4.off r) := Heap.le_off h4.le h4.fresh
 have h12 : (B.off s).le (B2.off s) := Heap.le_off ((Heap.off_le s B).trans hm.le) (Heap.off_fresh s B)
 refine ⟨?_, by rw [List.length_append]; exact hi, fun j l y hl hy => ?_⟩
 ·have e : (ys ++ [t]).map slv = ys.map slv ++ [slv t] := by simp
  rw [e]; exact h4.down hoff
 ·by_cases hj : j < ys.length
  ·rw [List.getElem?_append_left hj] at hy
   exact (h.done j l y hl hy).up (h12.trans h34)
  ·have hjl := (List.getElem?_eq_some_iff.1 hy).1
   rw [List.length_append, List.length_singleton] at hjl
   have hje : j = ys.length := by omega
   subst hje
   rw [List.getElem?_append_right (Nat.le_refl _), Nat.sub_self] at hy
   simp only [List.getElem?_cons_zero, Option.some.injEq] at hy
   rw [List.getElem?_eq_getElem hi] at hl
   have hl := Option.some.inj hl
   subst hy; subst hl
   exact (hm.off h.own.le h.own.fresh fun p hp => h.own.own.mine hp).up h34
/-- rows in order, each once, in memory of their own -/
structure Srt (H H2 : Heap) (ls : List (List V)) (t : Sl) (A : List (Sl × (List V × Nat))) : Prop where
 own : OwnF H H2 1 t (A.map fun e => slv e.1)
 row : ∀ e ∈ A, Made H (H2.off t) e.2.1 e.1
 rep : Rep (fun a b => cmpR a.1 b.1) (fun a => a.2) ls.zipIdx (A.map fun e => e.2)
 few : A.length ≤ ls.length
theorem splice_c {y : TV} : ∀ (xs : List TV) (sp : List Value) (i : Nat), ∃ (xs1 : List TV) (sp1 : List Value), splice (xs.flatMap T_api_Value.c ++ sp) (i * 4) (T_api_Value.c y) = xs1.flatMap T_api_Value.c ++ sp1 ∧ xs1.length = xs.length ∧ ∀ x ∈ xs1, x ∈ xs ∨ x = y
 | [], sp, i => ⟨[], splice sp (i * 4) (T_api_Value.c y), rfl, rfl, fun x hx => by cases hx⟩
 | x :: xs, sp, 0 => ⟨y :: xs, sp, rfl, rfl, fun z hz => by
  rcases List.mem_cons.1 hz with rfl | hz
  ·exact .inr rfl
  ·exact .inl (List.mem_cons_of_mem _ hz)⟩
 | x :: xs, sp, i + 1 => by
  obtain ⟨xs1, sp1, h1, h2, h3⟩ := splice_c (y := y) xs sp i
  refine ⟨x :: xs1, sp1, ?_, by simp [h2], fun z hz => ?_⟩
  ·rw [List.flatMap_cons, List.flatMap_cons, List.append_assoc, List.append_assoc, ← h1]
   have e : (i + 1) * 4 = (T_api_Value.c x).length + i * 4 := by rw [TV.c_len]; omega
   unfold splice
   rw [e, List.take_length_add_append, Nat.add_assoc, List.drop_length_add_append]
   simp only [List.append_assoc]
  ·rcases List.mem_cons.1 hz with rfl | hz
   ·exact .inl (List.mem_cons_self ..)
   ·exact (h3 z hz).imp (List.mem_cons_of_mem _) id
/-- a value written over in a row keeps all rows such -/
theorem Sp.put {b i : Nat} {cs : List Value} {y : TV} (hb : H b = some (true, .row cs)) (hy : y.L.len = 0) : ∀ {k : Nat} {t : Sl}, Sp N H k t → Sp N (H.put b (.row (splice cs (i * 4) (T_api_Value.c y)))) k t
 | 0, t, h => h
 | k + 1, t, .inl h => .inl h
 | k + 1, t, .inr ⟨c, xs, sp, h1, h2, h3, h4, h5, h6⟩ => by
  by_cases hc : c = b
  ·subst hc
   rw [h4] at hb
   injection hb with hb; injection hb with _ hb; injection hb with hb
   subst hb
   obtain ⟨xs1, sp1, e1, e2, e3⟩ := splice_c (y := y) xs sp i
   refine .inr ⟨c, xs1, sp1, h1, h2, h3, by rw [Heap.put_same, e1], by rw [e2]; exact h5, fun x hx => ?_⟩
   rcases e3 x hx with hx | rfl
   ·exact Sp.put h4 hy (h6 x hx)
   ·exact Sp.nil k hy
  ·exact .inr ⟨c, xs, sp, h1, h2, h3, by rw [Heap.put_ne _ _ _ hc]; exact h4, h5, fun x hx => Sp.put hb hy (h6 x hx)⟩
end
end Sx
end

noncomputable section
set_option linter.unusedVariables false
set_option linter.unusedSimpArgs false
namespace Sx
open Go Go.Proofs
section
variable {C : Ctx} {H : Heap}
theorem clone_ok {t : Sl} {xs : List TV} {K : Sl → Heap → Prop} (hr : rdsl H t (xs.flatMap T_api_Value.c)) (hl : t.len = xs.length) (h0 : t.len ≠ 0) (hs : t.len ≤ 1000000)
 (k : ∀ b sp cap B, H.le B → B b = none → t.len ≤ cap → K (Sl.of (some (b, 0)) t.len cap) (B.put b (.row (xs.flatMap T_api_Value.c ++ sp)))) : c_slices_Clone_api_Value_api_Value C t K H := by
 apply ad_slices_Clone_api_Value_api_Value
 unfold sh_slices_Clone_api_Value_api_Value
 have hf := flat4 xs
 have hnil : Sl.isNil t = false := by
  rcases hr with h | ⟨hx, p, hp, _⟩
  ·rw [h] at hf; simp at hf; omega
  ·unfold Sl.isNil; rw [hp]; rfl
 refine ift_neg hnil ?_
 intro b2 n2
 have hle := Heap.le_put n2 (g := .row []) (m := true)
 refine ⟨xs.flatMap T_api_Value.c, rdsl_le hle hr, ?_, [], .inl rfl, ?_, ?_, ?_, ?_, fun hfit => ?_, fun hgrow b cap hb hcap => ?_⟩
 ·intro u hu
  obtain ⟨x, _, hx⟩ := List.mem_flatMap.1 hu
  simp only [T_api_Value.c, List.mem_cons, List.not_mem_nil, or_false] at hx
  rcases hx with rfl | rfl | rfl | rfl <;> rfl
 ·rfl
 ·rw [hf, hl]; rfl
 ·show (0 + t.len) * 56 ≤ _; omega
 ·show 0 + t.len ≤ _; omega
 ·exfalso
  have : 0 + t.len ≤ 0 := hfit
  omega
 ·have e : (0 : Nat) + t.len = t.len := Nat.zero_add _
  have hc2 : 0 + t.len ≤ cap := hcap
  have := k b (zeros (T_api_Value.c T_api_Value.zero) (cap - (0 + t.len))) cap _ hle hb (by omega)
  show K (Sl.of (some (b, 0)) (0 + t.len) cap) _
  rw [e] at this ⊢
  exact this
end
end Sx
end

