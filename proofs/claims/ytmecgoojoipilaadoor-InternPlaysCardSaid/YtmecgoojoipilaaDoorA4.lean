/-
  Texts of this family, one behind the other: Sh, FmtI, ValQ, ValU, ValP1, ValP2, ValP3, ValP4, ValP5, ValR, ValW, ValX, ValC1.
-/
import Derived.Test.YtmecgoojoipilaaDoorA3
import Derived.Shelf.Strconv.Itoa4
noncomputable section
set_option linter.unusedVariables false
set_option maxRecDepth 100000
namespace Sx
open Go Go.Proofs
def sh_ref02_Depth (C : Ctx) (p_v : T_api_Value) (K : Int → Heap → Prop) (H : Heap) : Prop :=
  nw (T_api_Value.c p_v) (fun b1 H2 =>
 lp (α := Int × Int) (0, 0) H2 (fun x3 J4 H5 =>
 ldL H5 ((b1, 0).1, (b1, 0).2 + 3) fun x6 =>
 ift (decide ((x3.2 : Int) < (Sl.len x6 : Int)))
 (ldL H5 ((b1, 0).1, (b1, 0).2 + 3) fun x9 =>
 ixa x9 x3.2 fun p11 =>
 ldT H5 T_api_Value.c (p11.1, p11.2 + (x3.2 : Int).toNat * 4) fun x16 =>
 c_ref02_Depth C x16 (fun r18 H19 =>
 J4 ((if r18 > x3.1 then r18 else x3.1 : Int), (w .i64 (x3.2 + 1))) H19) H5)
 (K (w .i64 (x3.1 + 1)) H5))) H

theorem ad_ref02_Depth (C : Ctx) (p_v : T_api_Value) (K : Int → Heap → Prop) (H : Heap) (h : sh_ref02_Depth C p_v K H) : c_ref02_Depth C p_v K H := by
  refine Spec.enter Tryd.func42 rfl Tryd.ntmps42 rfl ?_
  refine GC.sub [(0, .agg (T_api_Value.c p_v).toArray)] ⟨rfl, trivial⟩ ?_
  refine GC.seq ?_
  refine GC.region ?_
  refine GL.box (v := .agg (T_api_Value.c p_v).toArray) (cs := T_api_Value.c p_v) h trivial rfl rfl rfl ?_
  intro b1 H2 h
  refine GL.val trivial rfl (OV.assign (v := .int .i64 0) rfl) ?_
  refine GL.nil ?_
  refine GC.seq ?_
  refine GC.region ?_
  refine GL.val trivial rfl (OV.assign (v := .int .i64 0) rfl) ?_
  refine GL.nil ?_
  refine GC.seq ?_
  refine GC.seq ?_
  refine GC.region ?_
  refine GL.val trivial rfl (OV.assign (v := .int .i64 0) rfl) ?_
  refine GL.nil ?_
  refine GC.block ?_
  refine GC.loop (α := Int × Int) h (fun x3 => [(3, .int .i64 x3.1), (4, .int .i64 x3.2), (1, pv (some (b1, 0)))]) ⟨rfl, rfl, rfl, trivial⟩ ?_
  intro x3 H5 J4 h
  refine GC.seq ?_
  refine GC.seq ?_
  refine GC.region ?_
  refine GL.val trivial rfl (OV.move (v := .int .i64 x3.2) rfl) ?_
  refine GL.val trivial rfl (OV.fieldAddr (p := (b1, 0)) rfl rfl) ?_
  obtain ⟨x6, hr7, h⟩ := h
  refine GL.val trivial rfl (OV.load (p := ((b1, 0).1, (b1, 0).2 + 3)) rfl rfl hr7) ?_
  refine GL.val trivial rfl (OV.lenSl (s := x6) rfl rfl) ?_
  refine GL.val trivial rfl (OV.ibin (v := .bool (decide ((x3.2 : Int) < (Sl.len x6 : Int)))) rfl rfl rfl) ?_
  refine GL.nil ?_
  refine GC.cond (b := decide ((x3.2 : Int) < (Sl.len x6 : Int))) rfl (fun hc8 => ?_) (fun hc8 => ?_)
  · replace h := And.left h hc8
    refine GC.skip ?_
    refine GC.seq ?_
    refine GC.block ?_
    refine GC.region ?_
    refine GL.val trivial rfl (OV.move (v := .int .i64 x3.1) rfl) ?_
    refine GL.val trivial rfl (OV.fieldAddr (p := (b1, 0)) rfl rfl) ?_
    obtain ⟨x9, hr10, h⟩ := h
    refine GL.val trivial rfl (OV.load (p := ((b1, 0).1, (b1, 0).2 + 3)) rfl rfl hr10) ?_
    refine GL.val trivial rfl (OV.move (v := .int .i64 x3.2) rfl) ?_
    obtain ⟨p11, ha12, hb13, hc14, hd15, h⟩ := h
    refine GL.val trivial rfl (OV.indexAddr (s := x9) rfl rfl rfl rfl ha12 hb13 hc14 hd15) ?_
    obtain ⟨x16, hr17, h⟩ := h
    refine GL.val trivial rfl (OV.loadT (p := (p11.1, p11.2 + (x3.2 : Int).toNat * 4)) (cs := T_api_Value.c x16) rfl rfl rfl hr17) ?_
    refine GL.call h trivial rfl ok_ref02_Depth (vs := [.agg (T_api_Value.c x16).toArray]) rfl ?_
    rintro _ H19 ⟨r18, rfl, h⟩
    refine GL.val trivial rfl (OV.maxI rfl rfl) ?_
    refine GL.val trivial rfl (OV.assign (v := .int .i64 (if r18 > x3.1 then r18 else x3.1 : Int)) rfl) ?_
    refine GL.nil_to (fun _ _ h => h) ?_
    refine GC.region ?_
    refine GL.val trivial rfl (OV.move (v := .int .i64 x3.2) rfl) ?_
    refine GL.val trivial rfl (OV.ibin (v := .int .i64 (w .i64 (x3.2 + 1))) rfl rfl rfl) ?_
    refine GL.val trivial rfl (OV.assign (v := .int .i64 (w .i64 (x3.2 + 1))) rfl) ?_
    exact GL.jump (fun _ _ h => h) ((if r18 > x3.1 then r18 else x3.1 : Int), (w .i64 (x3.2 + 1))) h ⟨rfl, rfl, rfl, trivial⟩
  · replace h := And.right h hc8
    refine GC.exit_to (fun _ _ h => h) ?_
    refine GC.seq ?_
    refine GC.region ?_
    refine GL.val trivial rfl (OV.move (v := .int .i64 x3.1) rfl) ?_
    refine GL.val trivial rfl (OV.ibin (v := .int .i64 (w .i64 (x3.1 + 1))) rfl rfl rfl) ?_
    refine GL.val trivial rfl (OV.assign (v := .int .i64 (w .i64 (x3.1 + 1))) rfl) ?_
    refine GL.nil ?_
    exact GC.ret (fun _ _ hf hs => post_tmp1 rfl rfl hf hs ⟨(w .i64 (x3.1 + 1)), rfl, h⟩)

def sh_ref02_form (C : Ctx) (p_v : T_api_Value) (K : Bool → Heap → Prop) (H : Heap) : Prop :=
  nw (T_api_Value.c p_v) (fun b1 H2 =>
 jn (α := Bool) (fun x4 H5 =>
 lp (α := Bool × Int) (x4, 0) H5 (fun x101 J102 H103 =>
 ldL H103 ((b1, 0).1, (b1, 0).2 + 3) fun x104 =>
 ift ((decide ((x101.2 : Int) < (Sl.len x104 : Int))) && x101.1)
 (ldL H103 ((b1, 0).1, (b1, 0).2 + 3) fun x108 =>
 ixa x108 x101.2 fun p110 =>
 ldT H103 T_api_Value.c (p110.1, p110.2 + (x101.2 : Int).toNat * 4) fun x115 =>
 c_ref02_form C x115 (fun r117 H118 =>
 J102 (r117, (w .i64 (x101.2 + 1))) H118) H103)
 (K x101.1 H103)))
 (fun J3 => ldI H2 .u8 ((b1, 0).1, (b1, 0).2 + 0) fun x7 =>
 ift ((x7 : Int) == 1)
 (ldI H2 .i64 ((b1, 0).1, (b1, 0).2 + 1) fun x10 =>
 jn (α := Bool) (fun b12 H18 =>
 jn (α := Bool) (fun b19 H25 =>
 jn (α := Bool) (fun b26 H32 =>
 J3 b26 H32)
 (fun J27 => ift b19
 (ldL H25 ((b1, 0).1, (b1, 0).2 + 3) fun x30 =>
 J27 (((Sl.len x30 : Int) : Int) == 0) H25)
 (J27 false H25)))
 (fun J20 => ift b12
 (ldS H18 ((b1, 0).1, (b1, 0).2 + 2) fun x23 =>
 J20 (x23 == ([] : Str)) H18)
 (J20 false H18)))
 (fun J13 => ift ((x10 : Int) == 0)
 (J13 true H2)
 (ldI H2 .i64 ((b1, 0).1, (b1, 0).2 + 1) fun x16 =>
 J13 ((x16 : Int) == 1) H2)))
 (ift ((x7 : Int) == 2)
 (ldS H2 ((b1, 0).1, (b1, 0).2 + 2) fun x34 =>
 jn (α := Bool) (fun b36 H42 =>
 J3 b36 H42)
 (fun J37 => ift (x34 == ([] : Str))
 (ldL H2 ((b1, 0).1, (b1, 0).2 + 3) fun x40 =>
 J37 (((Sl.len x40 : Int) : Int) == 0) H2)
 (J37 false H2)))
 (ift ((x7 : Int) == 3)
 (ldI H2 .i64 ((b1, 0).1, (b1, 0).2 + 1) fun x44 =>
 jn (α := Bool) (fun b46 H52 =>
 jn (α := Bool) (fun b53 H61 =>
 J3 b53 H61)
 (fun J54 => ift b46
 (ldS H52 ((b1, 0).1, (b1, 0).2 + 2) fun x57 =>
 c_ref02_Number C x57 (fun r59 H60 =>
 J54 r59 H60) H52)
 (J54 false H52)))
 (fun J47 => ift ((x44 : Int) == 0)
 (ldL H2 ((b1, 0).1, (b1, 0).2 + 3) fun x50 =>
 J47 (((Sl.len x50 : Int) : Int) == 0) H2)
 (J47 false H2)))
 (ift ((x7 : Int) == 4)
 (ldI H2 .i64 ((b1, 0).1, (b1, 0).2 + 1) fun x63 =>
 jn (α := Bool) (fun b65 H71 =>
 J3 b65 H71)
 (fun J66 => ift ((x63 : Int) == 0)
 (ldL H2 ((b1, 0).1, (b1, 0).2 + 3) fun x69 =>
 J66 (((Sl.len x69 : Int) : Int) == 0) H2)
 (J66 false H2)))
 (ift ((x7 : Int) == 5)
 (ldI H2 .i64 ((b1, 0).1, (b1, 0).2 + 1) fun x73 =>
 jn (α := Bool) (fun b75 H81 =>
 jn (α := Bool) (fun b82 H88 =>
 J3 b82 H88)
 (fun J83 => ift b75
 (ldL H81 ((b1, 0).1, (b1, 0).2 + 3) fun x86 =>
 J83 (((Sl.len x86 : Int) : Int) != 1) H81)
 (J83 false H81)))
 (fun J76 => ift ((x73 : Int) == 0)
 (ldS H2 ((b1, 0).1, (b1, 0).2 + 2) fun x79 =>
 J76 (x79 == ([] : Str)) H2)
 (J76 false H2)))
 (ift ((x7 : Int) == 6)
 (ldI H2 .i64 ((b1, 0).1, (b1, 0).2 + 1) fun x90 =>
 jn (α := Bool) (fun b92 H100 =>
 J3 b92 H100)
 (fun J93 => ift ((x90 : Int) == 0)
 (ldS H2 ((b1, 0).1, (b1, 0).2 + 2) fun x96 =>
 c_ref02_Names C x96 (fun r98 H99 =>
 J93 r98 H99) H2)
 (J93 false H2)))
 (J3 false H2)))))))) H

theorem ad_ref02_form (C : Ctx) (p_v : T_api_Value) (K : Bool → Heap → Prop) (H : Heap) (h : sh_ref02_form C p_v K H) : c_ref02_form C p_v K H := by
  refine Spec.enter Tryd.func43 rfl Tryd.ntmps43 rfl ?_
  refine GC.sub [(0, .agg (T_api_Value.c p_v).toArray)] ⟨rfl, trivial⟩ ?_
  refine GC.seq ?_
  refine GC.region ?_
  refine GL.box (v := .agg (T_api_Value.c p_v).toArray) (cs := T_api_Value.c p_v) h trivial rfl rfl rfl ?_
  intro b1 H2 h
  refine GL.val trivial rfl (OV.assign (v := .bool false) rfl) ?_
  refine GL.nil ?_
  refine GC.seq ?_
  refine GC.region ?_
  refine GL.val trivial rfl (OV.assign (v := .bool false) rfl) ?_
  refine GL.nil ?_
  obtain ⟨J3, h, hR6⟩ := h
  refine GC.join (α := Bool) J3 (fun x4 => [(3, .bool x4), (1, pv (some (b1, 0)))]) ?_ ?_
  · skip
    refine GC.seq ?_
    refine GC.region ?_
    refine GL.val trivial rfl (OV.fieldAddr (p := (b1, 0)) rfl rfl) ?_
    obtain ⟨x7, hr8, h⟩ := h
    refine GL.val trivial rfl (OV.load (p := ((b1, 0).1, (b1, 0).2 + 0)) rfl rfl hr8) ?_
    refine GL.nil ?_
    refine GC.block ?_
    refine GC.seq ?_
    refine GC.region ?_
    refine GL.val trivial rfl (OV.ibin (v := .bool ((x7 : Int) == 1)) rfl rfl rfl) ?_
    refine GL.val trivial rfl (OV.assign (v := .bool ((x7 : Int) == 1)) rfl) ?_
    refine GL.nil ?_
    refine GC.cond (b := (x7 : Int) == 1) rfl (fun hc9 => ?_) (fun hc9 => ?_)
    · replace h := And.left h hc9
      refine GC.region ?_
      refine GL.val trivial rfl (OV.fieldAddr (p := (b1, 0)) rfl rfl) ?_
      obtain ⟨x10, hr11, h⟩ := h
      refine GL.val trivial rfl (OV.load (p := ((b1, 0).1, (b1, 0).2 + 1)) rfl rfl hr11) ?_
      refine GL.val trivial rfl (OV.ibin (v := .bool ((x10 : Int) == 0)) rfl rfl rfl) ?_
      refine GL.val trivial rfl (OV.move (v := .bool ((x10 : Int) == 0)) rfl) ?_
      obtain ⟨J13, h, hR14⟩ := h
      refine GL.cut (α := Bool) 4 J13 (fun b12 => [(16, .bool b12), (1, pv (some (b1, 0)))]) ?_ ?_
      · rcases Bool.eq_false_or_eq_true ((x10 : Int) == 0) with hc15 | hc15
        · skip
          replace h := And.left h hc15
          refine GL.skip ⟨_, rfl, .inl ⟨_, rfl, hc15⟩⟩ rfl ?_
          refine GL.skip ⟨_, rfl, .inl ⟨_, rfl, hc15⟩⟩ rfl ?_
          refine GL.skip ⟨_, rfl, .inl ⟨_, rfl, hc15⟩⟩ rfl ?_
          refine GL.val trivial rfl (OV.pickT (b := (x10 : Int) == 0) (v := .bool true) rfl hc15 rfl) ?_
          exact GL.jump (fun _ _ h => h) true h ⟨rfl, rfl, trivial⟩
        · skip
          replace h := And.right h hc15
          refine GL.val ⟨_, _, rfl, rfl, hc15⟩ rfl (OV.fieldAddr (p := (b1, 0)) rfl rfl) ?_
          obtain ⟨x16, hr17, h⟩ := h
          refine GL.val ⟨_, _, rfl, rfl, hc15⟩ rfl (OV.load (p := ((b1, 0).1, (b1, 0).2 + 1)) rfl rfl hr17) ?_
          refine GL.val ⟨_, _, rfl, rfl, hc15⟩ rfl (OV.ibin (v := .bool ((x16 : Int) == 1)) rfl rfl rfl) ?_
          refine GL.val trivial rfl (OV.pickF (b := (x10 : Int) == 0) (v := .bool ((x16 : Int) == 1)) rfl hc15 rfl) ?_
          exact GL.jump (fun _ _ h => h) ((x16 : Int) == 1) h ⟨rfl, rfl, trivial⟩
      intro b12 H18 h
      replace h := hR14 b12 H18 h
      refine GL.val trivial rfl (OV.move (v := .bool b12) rfl) ?_
      obtain ⟨J20, h, hR21⟩ := h
      refine GL.cut (α := Bool) 4 J20 (fun b19 => [(21, .bool b19), (1, pv (some (b1, 0)))]) ?_ ?_
      · rcases Bool.eq_false_or_eq_true b12 with hc22 | hc22
        · skip
          replace h := And.left h hc22
          refine GL.val ⟨_, _, rfl, rfl, hc22⟩ rfl (OV.fieldAddr (p := (b1, 0)) rfl rfl) ?_
          obtain ⟨x23, hr24, h⟩ := h
          refine GL.val ⟨_, _, rfl, rfl, hc22⟩ rfl (OV.load (p := ((b1, 0).1, (b1, 0).2 + 2)) rfl rfl hr24) ?_
          refine GL.val ⟨_, _, rfl, rfl, hc22⟩ rfl (OV.sbin (a := x23) (b := ([] : Str)) (v := .bool (x23 == ([] : Str))) rfl rfl rfl) ?_
          refine GL.val trivial rfl (OV.pickT (b := b12) (v := .bool (x23 == ([] : Str))) rfl hc22 rfl) ?_
          exact GL.jump (fun _ _ h => h) (x23 == ([] : Str)) h ⟨rfl, rfl, trivial⟩
        · skip
          replace h := And.right h hc22
          refine GL.skip ⟨_, rfl, .inl ⟨_, rfl, hc22⟩⟩ rfl ?_
          refine GL.skip ⟨_, rfl, .inl ⟨_, rfl, hc22⟩⟩ rfl ?_
          refine GL.skip ⟨_, rfl, .inl ⟨_, rfl, hc22⟩⟩ rfl ?_
          refine GL.val trivial rfl (OV.pickF (b := b12) (v := .bool false) rfl hc22 rfl) ?_
          exact GL.jump (fun _ _ h => h) false h ⟨rfl, rfl, trivial⟩
      intro b19 H25 h
      replace h := hR21 b19 H25 h
      refine GL.val trivial rfl (OV.move (v := .bool b19) rfl) ?_
      obtain ⟨J27, h, hR28⟩ := h
      refine GL.cut (α := Bool) 5 J27 (fun b26 => [(27, .bool b26), (1, pv (some (b1, 0)))]) ?_ ?_
      · rcases Bool.eq_false_or_eq_true b19 with hc29 | hc29
        · skip
          replace h := And.left h hc29
          refine GL.val ⟨_, _, rfl, rfl, hc29⟩ rfl (OV.fieldAddr (p := (b1, 0)) rfl rfl) ?_
          obtain ⟨x30, hr31, h⟩ := h
          refine GL.val ⟨_, _, rfl, rfl, hc29⟩ rfl (OV.load (p := ((b1, 0).1, (b1, 0).2 + 3)) rfl rfl hr31) ?_
          refine GL.val ⟨_, _, rfl, rfl, hc29⟩ rfl (OV.lenSl (s := x30) rfl rfl) ?_
          refine GL.val ⟨_, _, rfl, rfl, hc29⟩ rfl (OV.ibin (v := .bool (((Sl.len x30 : Int) : Int) == 0)) rfl rfl rfl) ?_
          refine GL.val trivial rfl (OV.pickT (b := b19) (v := .bool (((Sl.len x30 : Int) : Int) == 0)) rfl hc29 rfl) ?_
          exact GL.jump (fun _ _ h => h) (((Sl.len x30 : Int) : Int) == 0) h ⟨rfl, rfl, trivial⟩
        · skip
          replace h := And.right h hc29
          refine GL.skip ⟨_, rfl, .inl ⟨_, rfl, hc29⟩⟩ rfl ?_
          refine GL.skip ⟨_, rfl, .inl ⟨_, rfl, hc29⟩⟩ rfl ?_
          refine GL.skip ⟨_, rfl, .inl ⟨_, rfl, hc29⟩⟩ rfl ?_
          refine GL.skip ⟨_, rfl, .inl ⟨_, rfl, hc29⟩⟩ rfl ?_
          refine GL.val trivial rfl (OV.pickF (b := b19) (v := .bool false) rfl hc29 rfl) ?_
          exact GL.jump (fun _ _ h => h) false h ⟨rfl, rfl, trivial⟩
      intro b26 H32 h
      replace h := hR28 b26 H32 h
      refine GL.val trivial rfl (OV.assign (v := .bool b26) rfl) ?_
      exact GL.jump (fun _ _ h => h) b26 h ⟨rfl, rfl, trivial⟩
    · replace h := And.right h hc9
      refine GC.seq ?_
      refine GC.region ?_
      refine GL.val trivial rfl (OV.ibin (v := .bool ((x7 : Int) == 2)) rfl rfl rfl) ?_
      refine GL.val trivial rfl (OV.assign (v := .bool ((x7 : Int) == 2)) rfl) ?_
      refine GL.nil ?_
      refine GC.cond (b := (x7 : Int) == 2) rfl (fun hc33 => ?_) (fun hc33 => ?_)
      · replace h := And.left h hc33
        refine GC.region ?_
        refine GL.val trivial rfl (OV.fieldAddr (p := (b1, 0)) rfl rfl) ?_
        obtain ⟨x34, hr35, h⟩ := h
        refine GL.val trivial rfl (OV.load (p := ((b1, 0).1, (b1, 0).2 + 2)) rfl rfl hr35) ?_
        refine GL.val trivial rfl (OV.sbin (a := x34) (b := ([] : Str)) (v := .bool (x34 == ([] : Str))) rfl rfl rfl) ?_
        refine GL.val trivial rfl (OV.move (v := .bool (x34 == ([] : Str))) rfl) ?_
        obtain ⟨J37, h, hR38⟩ := h
        refine GL.cut (α := Bool) 5 J37 (fun b36 => [(38, .bool b36), (1, pv (some (b1, 0)))]) ?_ ?_
        · rcases Bool.eq_false_or_eq_true (x34 == ([] : Str)) with hc39 | hc39
          · skip
            replace h := And.left h hc39
            refine GL.val ⟨_, _, rfl, rfl, hc39⟩ rfl (OV.fieldAddr (p := (b1, 0)) rfl rfl) ?_
            obtain ⟨x40, hr41, h⟩ := h
            refine GL.val ⟨_, _, rfl, rfl, hc39⟩ rfl (OV.load (p := ((b1, 0).1, (b1, 0).2 + 3)) rfl rfl hr41) ?_
            refine GL.val ⟨_, _, rfl, rfl, hc39⟩ rfl (OV.lenSl (s := x40) rfl rfl) ?_
            refine GL.val ⟨_, _, rfl, rfl, hc39⟩ rfl (OV.ibin (v := .bool (((Sl.len x40 : Int) : Int) == 0)) rfl rfl rfl) ?_
            refine GL.val trivial rfl (OV.pickT (b := x34 == ([] : Str)) (v := .bool (((Sl.len x40 : Int) : Int) == 0)) rfl hc39 rfl) ?_
            exact GL.jump (fun _ _ h => h) (((Sl.len x40 : Int) : Int) == 0) h ⟨rfl, rfl, trivial⟩
          · skip
            replace h := And.right h hc39
            refine GL.skip ⟨_, rfl, .inl ⟨_, rfl, hc39⟩⟩ rfl ?_
            refine GL.skip ⟨_, rfl, .inl ⟨_, rfl, hc39⟩⟩ rfl ?_
            refine GL.skip ⟨_, rfl, .inl ⟨_, rfl, hc39⟩⟩ rfl ?_
            refine GL.skip ⟨_, rfl, .inl ⟨_, rfl, hc39⟩⟩ rfl ?_
            refine GL.val trivial rfl (OV.pickF (b := x34 == ([] : Str)) (v := .bool false) rfl hc39 rfl) ?_
            exact GL.jump (fun _ _ h => h) false h ⟨rfl, rfl, trivial⟩
        intro b36 H42 h
        replace h := hR38 b36 H42 h
        refine GL.val trivial rfl (OV.assign (v := .bool b36) rfl) ?_
        exact GL.jump (fun _ _ h => h) b36 h ⟨rfl, rfl, trivial⟩
      · replace h := And.right h hc33
        refine GC.seq ?_
        refine GC.region ?_
        refine GL.val trivial rfl (OV.ibin (v := .bool ((x7 : Int) == 3)) rfl rfl rfl) ?_
        refine GL.val trivial rfl (OV.assign (v := .bool ((x7 : Int) == 3)) rfl) ?_
        refine GL.nil ?_
        refine GC.cond (b := (x7 : Int) == 3) rfl (fun hc43 => ?_) (fun hc43 => ?_)
        · replace h := And.left h hc43
          refine GC.region ?_
          refine GL.val trivial rfl (OV.fieldAddr (p := (b1, 0)) rfl rfl) ?_
          obtain ⟨x44, hr45, h⟩ := h
          refine GL.val trivial rfl (OV.load (p := ((b1, 0).1, (b1, 0).2 + 1)) rfl rfl hr45) ?_
          refine GL.val trivial rfl (OV.ibin (v := .bool ((x44 : Int) == 0)) rfl rfl rfl) ?_
          refine GL.val trivial rfl (OV.move (v := .bool ((x44 : Int) == 0)) rfl) ?_
          obtain ⟨J47, h, hR48⟩ := h
          refine GL.cut (α := Bool) 5 J47 (fun b46 => [(49, .bool b46), (1, pv (some (b1, 0)))]) ?_ ?_
          · rcases Bool.eq_false_or_eq_true ((x44 : Int) == 0) with hc49 | hc49
            · skip
              replace h := And.left h hc49
              refine GL.val ⟨_, _, rfl, rfl, hc49⟩ rfl (OV.fieldAddr (p := (b1, 0)) rfl rfl) ?_
              obtain ⟨x50, hr51, h⟩ := h
              refine GL.val ⟨_, _, rfl, rfl, hc49⟩ rfl (OV.load (p := ((b1, 0).1, (b1, 0).2 + 3)) rfl rfl hr51) ?_
              refine GL.val ⟨_, _, rfl, rfl, hc49⟩ rfl (OV.lenSl (s := x50) rfl rfl) ?_
              refine GL.val ⟨_, _, rfl, rfl, hc49⟩ rfl (OV.ibin (v := .bool (((Sl.len x50 : Int) : Int) == 0)) rfl rfl rfl) ?_
              refine GL.val trivial rfl (OV.pickT (b := (x44 : Int) == 0) (v := .bool (((Sl.len x50 : Int) : Int) == 0)) rfl hc49 rfl) ?_
              exact GL.jump (fun _ _ h => h) (((Sl.len x50 : Int) : Int) == 0) h ⟨rfl, rfl, trivial⟩
            · skip
              replace h := And.right h hc49
              refine GL.skip ⟨_, rfl, .inl ⟨_, rfl, hc49⟩⟩ rfl ?_
              refine GL.skip ⟨_, rfl, .inl ⟨_, rfl, hc49⟩⟩ rfl ?_
              refine GL.skip ⟨_, rfl, .inl ⟨_, rfl, hc49⟩⟩ rfl ?_
              refine GL.skip ⟨_, rfl, .inl ⟨_, rfl, hc49⟩⟩ rfl ?_
              refine GL.val trivial rfl (OV.pickF (b := (x44 : Int) == 0) (v := .bool false) rfl hc49 rfl) ?_
              exact GL.jump (fun _ _ h => h) false h ⟨rfl, rfl, trivial⟩
          intro b46 H52 h
          replace h := hR48 b46 H52 h
          refine GL.val trivial rfl (OV.move (v := .bool b46) rfl) ?_
          obtain ⟨J54, h, hR55⟩ := h
          refine GL.cut (α := Bool) 4 J54 (fun b53 => [(54, .bool b53), (1, pv (some (b1, 0)))]) ?_ ?_
          · rcases Bool.eq_false_or_eq_true b46 with hc56 | hc56
            · skip
              replace h := And.left h hc56
              refine GL.val ⟨_, _, rfl, rfl, hc56⟩ rfl (OV.fieldAddr (p := (b1, 0)) rfl rfl) ?_
              obtain ⟨x57, hr58, h⟩ := h
              refine GL.val ⟨_, _, rfl, rfl, hc56⟩ rfl (OV.load (p := ((b1, 0).1, (b1, 0).2 + 2)) rfl rfl hr58) ?_
              refine GL.call h ⟨_, _, rfl, rfl, hc56⟩ rfl ok_ref02_Number (vs := [sv x57]) rfl ?_
              rintro _ H60 ⟨r59, rfl, h⟩
              refine GL.val trivial rfl (OV.pickT (b := b46) (v := .bool r59) rfl hc56 rfl) ?_
              exact GL.jump (fun _ _ h => h) r59 h ⟨rfl, rfl, trivial⟩
            · skip
              replace h := And.right h hc56
              refine GL.skip ⟨_, rfl, .inl ⟨_, rfl, hc56⟩⟩ rfl ?_
              refine GL.skip ⟨_, rfl, .inl ⟨_, rfl, hc56⟩⟩ rfl ?_
              refine GL.skip ⟨_, rfl, .inl ⟨_, rfl, hc56⟩⟩ rfl ?_
              refine GL.val trivial rfl (OV.pickF (b := b46) (v := .bool false) rfl hc56 rfl) ?_
              exact GL.jump (fun _ _ h => h) false h ⟨rfl, rfl, trivial⟩
          intro b53 H61 h
          replace h := hR55 b53 H61 h
          refine GL.val trivial rfl (OV.assign (v := .bool b53) rfl) ?_
          exact GL.jump (fun _ _ h => h) b53 h ⟨rfl, rfl, trivial⟩
        · replace h := And.right h hc43
          refine GC.seq ?_
          refine GC.region ?_
          refine GL.val trivial rfl (OV.ibin (v := .bool ((x7 : Int) == 4)) rfl rfl rfl) ?_
          refine GL.val trivial rfl (OV.assign (v := .bool ((x7 : Int) == 4)) rfl) ?_
          refine GL.nil ?_
          refine GC.cond (b := (x7 : Int) == 4) rfl (fun hc62 => ?_) (fun hc62 => ?_)
          · replace h := And.left h hc62
            refine GC.region ?_
            refine GL.val trivial rfl (OV.fieldAddr (p := (b1, 0)) rfl rfl) ?_
            obtain ⟨x63, hr64, h⟩ := h
            refine GL.val trivial rfl (OV.load (p := ((b1, 0).1, (b1, 0).2 + 1)) rfl rfl hr64) ?_
            refine GL.val trivial rfl (OV.ibin (v := .bool ((x63 : Int) == 0)) rfl rfl rfl) ?_
            refine GL.val trivial rfl (OV.move (v := .bool ((x63 : Int) == 0)) rfl) ?_
            obtain ⟨J66, h, hR67⟩ := h
            refine GL.cut (α := Bool) 5 J66 (fun b65 => [(65, .bool b65), (1, pv (some (b1, 0)))]) ?_ ?_
            · rcases Bool.eq_false_or_eq_true ((x63 : Int) == 0) with hc68 | hc68
              · skip
                replace h := And.left h hc68
                refine GL.val ⟨_, _, rfl, rfl, hc68⟩ rfl (OV.fieldAddr (p := (b1, 0)) rfl rfl) ?_
                obtain ⟨x69, hr70, h⟩ := h
                refine GL.val ⟨_, _, rfl, rfl, hc68⟩ rfl (OV.load (p := ((b1, 0).1, (b1, 0).2 + 3)) rfl rfl hr70) ?_
                refine GL.val ⟨_, _, rfl, rfl, hc68⟩ rfl (OV.lenSl (s := x69) rfl rfl) ?_
                refine GL.val ⟨_, _, rfl, rfl, hc68⟩ rfl (OV.ibin (v := .bool (((Sl.len x69 : Int) : Int) == 0)) rfl rfl rfl) ?_
                refine GL.val trivial rfl (OV.pickT (b := (x63 : Int) == 0) (v := .bool (((Sl.len x69 : Int) : Int) == 0)) rfl hc68 rfl) ?_
                exact GL.jump (fun _ _ h => h) (((Sl.len x69 : Int) : Int) == 0) h ⟨rfl, rfl, trivial⟩
              · skip
                replace h := And.right h hc68
                refine GL.skip ⟨_, rfl, .inl ⟨_, rfl, hc68⟩⟩ rfl ?_
                refine GL.skip ⟨_, rfl, .inl ⟨_, rfl, hc68⟩⟩ rfl ?_
                refine GL.skip ⟨_, rfl, .inl ⟨_, rfl, hc68⟩⟩ rfl ?_
                refine GL.skip ⟨_, rfl, .inl ⟨_, rfl, hc68⟩⟩ rfl ?_
                refine GL.val trivial rfl (OV.pickF (b := (x63 : Int) == 0) (v := .bool false) rfl hc68 rfl) ?_
                exact GL.jump (fun _ _ h => h) false h ⟨rfl, rfl, trivial⟩
            intro b65 H71 h
            replace h := hR67 b65 H71 h
            refine GL.val trivial rfl (OV.assign (v := .bool b65) rfl) ?_
            exact GL.jump (fun _ _ h => h) b65 h ⟨rfl, rfl, trivial⟩
          · replace h := And.right h hc62
            refine GC.seq ?_
            refine GC.region ?_
            refine GL.val trivial rfl (OV.ibin (v := .bool ((x7 : Int) == 5)) rfl rfl rfl) ?_
            refine GL.val trivial rfl (OV.assign (v := .bool ((x7 : Int) == 5)) rfl) ?_
            refine GL.nil ?_
            refine GC.cond (b := (x7 : Int) == 5) rfl (fun hc72 => ?_) (fun hc72 => ?_)
            · replace h := And.left h hc72
              refine GC.region ?_
              refine GL.val trivial rfl (OV.fieldAddr (p := (b1, 0)) rfl rfl) ?_
              obtain ⟨x73, hr74, h⟩ := h
              refine GL.val trivial rfl (OV.load (p := ((b1, 0).1, (b1, 0).2 + 1)) rfl rfl hr74) ?_
              refine GL.val trivial rfl (OV.ibin (v := .bool ((x73 : Int) == 0)) rfl rfl rfl) ?_
              refine GL.val trivial rfl (OV.move (v := .bool ((x73 : Int) == 0)) rfl) ?_
              obtain ⟨J76, h, hR77⟩ := h
              refine GL.cut (α := Bool) 4 J76 (fun b75 => [(75, .bool b75), (1, pv (some (b1, 0)))]) ?_ ?_
              · rcases Bool.eq_false_or_eq_true ((x73 : Int) == 0) with hc78 | hc78
                · skip
                  replace h := And.left h hc78
                  refine GL.val ⟨_, _, rfl, rfl, hc78⟩ rfl (OV.fieldAddr (p := (b1, 0)) rfl rfl) ?_
                  obtain ⟨x79, hr80, h⟩ := h
                  refine GL.val ⟨_, _, rfl, rfl, hc78⟩ rfl (OV.load (p := ((b1, 0).1, (b1, 0).2 + 2)) rfl rfl hr80) ?_
                  refine GL.val ⟨_, _, rfl, rfl, hc78⟩ rfl (OV.sbin (a := x79) (b := ([] : Str)) (v := .bool (x79 == ([] : Str))) rfl rfl rfl) ?_
                  refine GL.val trivial rfl (OV.pickT (b := (x73 : Int) == 0) (v := .bool (x79 == ([] : Str))) rfl hc78 rfl) ?_
                  exact GL.jump (fun _ _ h => h) (x79 == ([] : Str)) h ⟨rfl, rfl, trivial⟩
                · skip
                  replace h := And.right h hc78
                  refine GL.skip ⟨_, rfl, .inl ⟨_, rfl, hc78⟩⟩ rfl ?_
                  refine GL.skip ⟨_, rfl, .inl ⟨_, rfl, hc78⟩⟩ rfl ?_
                  refine GL.skip ⟨_, rfl, .inl ⟨_, rfl, hc78⟩⟩ rfl ?_
                  refine GL.val trivial rfl (OV.pickF (b := (x73 : Int) == 0) (v := .bool false) rfl hc78 rfl) ?_
                  exact GL.jump (fun _ _ h => h) false h ⟨rfl, rfl, trivial⟩
              intro b75 H81 h
              replace h := hR77 b75 H81 h
              refine GL.val trivial rfl (OV.move (v := .bool b75) rfl) ?_
              obtain ⟨J83, h, hR84⟩ := h
              refine GL.cut (α := Bool) 5 J83 (fun b82 => [(81, .bool b82), (1, pv (some (b1, 0)))]) ?_ ?_
              · rcases Bool.eq_false_or_eq_true b75 with hc85 | hc85
                · skip
                  replace h := And.left h hc85
                  refine GL.val ⟨_, _, rfl, rfl, hc85⟩ rfl (OV.fieldAddr (p := (b1, 0)) rfl rfl) ?_
                  obtain ⟨x86, hr87, h⟩ := h
                  refine GL.val ⟨_, _, rfl, rfl, hc85⟩ rfl (OV.load (p := ((b1, 0).1, (b1, 0).2 + 3)) rfl rfl hr87) ?_
                  refine GL.val ⟨_, _, rfl, rfl, hc85⟩ rfl (OV.lenSl (s := x86) rfl rfl) ?_
                  refine GL.val ⟨_, _, rfl, rfl, hc85⟩ rfl (OV.ibin (v := .bool (((Sl.len x86 : Int) : Int) != 1)) rfl rfl rfl) ?_
                  refine GL.val trivial rfl (OV.pickT (b := b75) (v := .bool (((Sl.len x86 : Int) : Int) != 1)) rfl hc85 rfl) ?_
                  exact GL.jump (fun _ _ h => h) (((Sl.len x86 : Int) : Int) != 1) h ⟨rfl, rfl, trivial⟩
                · skip
                  replace h := And.right h hc85
                  refine GL.skip ⟨_, rfl, .inl ⟨_, rfl, hc85⟩⟩ rfl ?_
                  refine GL.skip ⟨_, rfl, .inl ⟨_, rfl, hc85⟩⟩ rfl ?_
                  refine GL.skip ⟨_, rfl, .inl ⟨_, rfl, hc85⟩⟩ rfl ?_
                  refine GL.skip ⟨_, rfl, .inl ⟨_, rfl, hc85⟩⟩ rfl ?_
                  refine GL.val trivial rfl (OV.pickF (b := b75) (v := .bool false) rfl hc85 rfl) ?_
                  exact GL.jump (fun _ _ h => h) false h ⟨rfl, rfl, trivial⟩
              intro b82 H88 h
              replace h := hR84 b82 H88 h
              refine GL.val trivial rfl (OV.assign (v := .bool b82) rfl) ?_
              exact GL.jump (fun _ _ h => h) b82 h ⟨rfl, rfl, trivial⟩
            · replace h := And.right h hc72
              refine GC.seq ?_
              refine GC.region ?_
              refine GL.val trivial rfl (OV.ibin (v := .bool ((x7 : Int) == 6)) rfl rfl rfl) ?_
              refine GL.val trivial rfl (OV.assign (v := .bool ((x7 : Int) == 6)) rfl) ?_
              refine GL.nil ?_
              refine GC.cond (b := (x7 : Int) == 6) rfl (fun hc89 => ?_) (fun hc89 => ?_)
              · replace h := And.left h hc89
                refine GC.region ?_
                refine GL.val trivial rfl (OV.fieldAddr (p := (b1, 0)) rfl rfl) ?_
                obtain ⟨x90, hr91, h⟩ := h
                refine GL.val trivial rfl (OV.load (p := ((b1, 0).1, (b1, 0).2 + 1)) rfl rfl hr91) ?_
                refine GL.val trivial rfl (OV.ibin (v := .bool ((x90 : Int) == 0)) rfl rfl rfl) ?_
                refine GL.val trivial rfl (OV.move (v := .bool ((x90 : Int) == 0)) rfl) ?_
                obtain ⟨J93, h, hR94⟩ := h
                refine GL.cut (α := Bool) 4 J93 (fun b92 => [(91, .bool b92), (1, pv (some (b1, 0)))]) ?_ ?_
                · rcases Bool.eq_false_or_eq_true ((x90 : Int) == 0) with hc95 | hc95
                  · skip
                    replace h := And.left h hc95
                    refine GL.val ⟨_, _, rfl, rfl, hc95⟩ rfl (OV.fieldAddr (p := (b1, 0)) rfl rfl) ?_
                    obtain ⟨x96, hr97, h⟩ := h
                    refine GL.val ⟨_, _, rfl, rfl, hc95⟩ rfl (OV.load (p := ((b1, 0).1, (b1, 0).2 + 2)) rfl rfl hr97) ?_
                    refine GL.call h ⟨_, _, rfl, rfl, hc95⟩ rfl ok_ref02_Names (vs := [sv x96]) rfl ?_
                    rintro _ H99 ⟨r98, rfl, h⟩
                    refine GL.val trivial rfl (OV.pickT (b := (x90 : Int) == 0) (v := .bool r98) rfl hc95 rfl) ?_
                    exact GL.jump (fun _ _ h => h) r98 h ⟨rfl, rfl, trivial⟩
                  · skip
                    replace h := And.right h hc95
                    refine GL.skip ⟨_, rfl, .inl ⟨_, rfl, hc95⟩⟩ rfl ?_
                    refine GL.skip ⟨_, rfl, .inl ⟨_, rfl, hc95⟩⟩ rfl ?_
                    refine GL.skip ⟨_, rfl, .inl ⟨_, rfl, hc95⟩⟩ rfl ?_
                    refine GL.val trivial rfl (OV.pickF (b := (x90 : Int) == 0) (v := .bool false) rfl hc95 rfl) ?_
                    exact GL.jump (fun _ _ h => h) false h ⟨rfl, rfl, trivial⟩
                intro b92 H100 h
                replace h := hR94 b92 H100 h
                refine GL.val trivial rfl (OV.assign (v := .bool b92) rfl) ?_
                exact GL.jump (fun _ _ h => h) b92 h ⟨rfl, rfl, trivial⟩
              · replace h := And.right h hc89
                exact GC.jump (fun _ _ h => h) false h ⟨rfl, rfl, trivial⟩
  · intro x4 H5 h
    replace h := hR6 x4 H5 h
    refine GC.seq ?_
    refine GC.seq ?_
    refine GC.region ?_
    refine GL.val trivial rfl (OV.assign (v := .int .i64 0) rfl) ?_
    refine GL.nil ?_
    refine GC.block ?_
    refine GC.loop (α := Bool × Int) h (fun x101 => [(3, .bool x101.1), (4, .int .i64 x101.2), (1, pv (some (b1, 0)))]) ⟨rfl, rfl, rfl, trivial⟩ ?_
    intro x101 H103 J102 h
    refine GC.seq ?_
    refine GC.seq ?_
    refine GC.region ?_
    refine GL.val trivial rfl (OV.move (v := .int .i64 x101.2) rfl) ?_
    refine GL.val trivial rfl (OV.fieldAddr (p := (b1, 0)) rfl rfl) ?_
    obtain ⟨x104, hr105, h⟩ := h
    refine GL.val trivial rfl (OV.load (p := ((b1, 0).1, (b1, 0).2 + 3)) rfl rfl hr105) ?_
    refine GL.val trivial rfl (OV.lenSl (s := x104) rfl rfl) ?_
    refine GL.val trivial rfl (OV.ibin (v := .bool (decide ((x101.2 : Int) < (Sl.len x104 : Int)))) rfl rfl rfl) ?_
    refine GL.val trivial rfl (OV.move (v := .bool (decide ((x101.2 : Int) < (Sl.len x104 : Int)))) rfl) ?_
    refine GL.cut0 2 [(99, .bool ((decide ((x101.2 : Int) < (Sl.len x104 : Int))) && x101.1)), (1, pv (some (b1, 0))), (3, .bool x101.1), (4, .int .i64 x101.2)] ?_ ?_
    · rcases Bool.eq_false_or_eq_true (decide ((x101.2 : Int) < (Sl.len x104 : Int))) with hc106 | hc106
      · skip
        refine GL.val ⟨_, _, rfl, rfl, hc106⟩ rfl (OV.move (v := .bool x101.1) rfl) ?_
        refine GL.val trivial rfl (OV.pickT (b := decide ((x101.2 : Int) < (Sl.len x104 : Int))) (v := .bool x101.1) rfl hc106 rfl) ?_
        exact GL.jump0 (fun _ _ h => h) () rfl ⟨(by rw [hc106]; rfl), rfl, rfl, rfl, trivial⟩
      · skip
        refine GL.skip ⟨_, rfl, .inl ⟨_, rfl, hc106⟩⟩ rfl ?_
        refine GL.val trivial rfl (OV.pickF (b := decide ((x101.2 : Int) < (Sl.len x104 : Int))) (v := .bool false) rfl hc106 rfl) ?_
        exact GL.jump0 (fun _ _ h => h) () rfl ⟨(by rw [hc106]; rfl), rfl, rfl, rfl, trivial⟩
    refine GL.nil ?_
    refine GC.cond (b := (decide ((x101.2 : Int) < (Sl.len x104 : Int))) && x101.1) rfl (fun hc107 => ?_) (fun hc107 => ?_)
    · replace h := And.left h hc107
      refine GC.skip ?_
      refine GC.seq ?_
      refine GC.block ?_
      refine GC.region ?_
      refine GL.val trivial rfl (OV.fieldAddr (p := (b1, 0)) rfl rfl) ?_
      obtain ⟨x108, hr109, h⟩ := h
      refine GL.val trivial rfl (OV.load (p := ((b1, 0).1, (b1, 0).2 + 3)) rfl rfl hr109) ?_
      refine GL.val trivial rfl (OV.move (v := .int .i64 x101.2) rfl) ?_
      obtain ⟨p110, ha111, hb112, hc113, hd114, h⟩ := h
      refine GL.val trivial rfl (OV.indexAddr (s := x108) rfl rfl rfl rfl ha111 hb112 hc113 hd114) ?_
      obtain ⟨x115, hr116, h⟩ := h
      refine GL.val trivial rfl (OV.loadT (p := (p110.1, p110.2 + (x101.2 : Int).toNat * 4)) (cs := T_api_Value.c x115) rfl rfl rfl hr116) ?_
      refine GL.call h trivial rfl ok_ref02_form (vs := [.agg (T_api_Value.c x115).toArray]) rfl ?_
      rintro _ H118 ⟨r117, rfl, h⟩
      refine GL.val trivial rfl (OV.assign (v := .bool r117) rfl) ?_
      refine GL.nil_to (fun _ _ h => h) ?_
      refine GC.region ?_
      refine GL.val trivial rfl (OV.move (v := .int .i64 x101.2) rfl) ?_
      refine GL.val trivial rfl (OV.ibin (v := .int .i64 (w .i64 (x101.2 + 1))) rfl rfl rfl) ?_
      refine GL.val trivial rfl (OV.assign (v := .int .i64 (w .i64 (x101.2 + 1))) rfl) ?_
      exact GL.jump (fun _ _ h => h) (r117, (w .i64 (x101.2 + 1))) h ⟨rfl, rfl, rfl, trivial⟩
    · replace h := And.right h hc107
      refine GC.exit_to (fun _ _ h => h) ?_
      refine GC.seq ?_
      refine GC.region ?_
      refine GL.val trivial rfl (OV.move (v := .bool x101.1) rfl) ?_
      refine GL.val trivial rfl (OV.assign (v := .bool x101.1) rfl) ?_
      refine GL.nil ?_
      exact GC.ret (fun _ _ hf hs => post_tmp1 rfl rfl hf hs ⟨x101.1, rfl, h⟩)

def sh_ref02_fits (C : Ctx) (p_v : T_api_Value) (K : Bool → Heap → Prop) (H : Heap) : Prop :=
  nw (T_api_Value.c p_v) (fun b1 H2 =>
 jn (α := Bool) (fun x4 H5 =>
 lp (α := Bool × Int) (x4, 0) H5 (fun x23 J24 H25 =>
 ldL H25 ((b1, 0).1, (b1, 0).2 + 3) fun x26 =>
 ift ((decide ((x23.2 : Int) < (Sl.len x26 : Int))) && x23.1)
 (ldL H25 ((b1, 0).1, (b1, 0).2 + 3) fun x30 =>
 ixa x30 x23.2 fun p32 =>
 ldT H25 T_api_Value.c (p32.1, p32.2 + (x23.2 : Int).toNat * 4) fun x37 =>
 c_ref02_fits C x37 (fun r39 H40 =>
 J24 (r39, (w .i64 (x23.2 + 1))) H40) H25)
 (K x23.1 H25)))
 (fun J3 => ldI H2 .u8 ((b1, 0).1, (b1, 0).2 + 0) fun x7 =>
 ift ((x7 : Int) == 3)
 (ldS H2 ((b1, 0).1, (b1, 0).2 + 2) fun x10 =>
 c_ref02_Digits C x10 (fun r12 H13 =>
 J3 (decide ((r12 : Int) ≤ 200)) H13) H2)
 (ift ((x7 : Int) == 4)
 (ldS H2 ((b1, 0).1, (b1, 0).2 + 2) fun x15 =>
 J3 (decide (((List.length x15 : Int) : Int) ≤ 4096)) H2)
 (ift ((x7 : Int) == 5)
 (ldL H2 ((b1, 0).1, (b1, 0).2 + 3) fun x18 =>
 J3 (decide (((Sl.len x18 : Int) : Int) ≤ 16)) H2)
 (ift ((x7 : Int) == 6)
 (ldL H2 ((b1, 0).1, (b1, 0).2 + 3) fun x21 =>
 J3 (decide (((Sl.len x21 : Int) : Int) ≤ 8)) H2)
 (J3 true H2)))))) H

theorem ad_ref02_fits (C : Ctx) (p_v : T_api_Value) (K : Bool → Heap → Prop) (H : Heap) (h : sh_ref02_fits C p_v K H) : c_ref02_fits C p_v K H := by
  refine Spec.enter Tryd.func44 rfl Tryd.ntmps44 rfl ?_
  refine GC.sub [(0, .agg (T_api_Value.c p_v).toArray)] ⟨rfl, trivial⟩ ?_
  refine GC.seq ?_
  refine GC.region ?_
  refine GL.box (v := .agg (T_api_Value.c p_v).toArray) (cs := T_api_Value.c p_v) h trivial rfl rfl rfl ?_
  intro b1 H2 h
  refine GL.val trivial rfl (OV.assign (v := .bool false) rfl) ?_
  refine GL.nil ?_
  refine GC.seq ?_
  refine GC.region ?_
  refine GL.val trivial rfl (OV.assign (v := .bool true) rfl) ?_
  refine GL.nil ?_
  obtain ⟨J3, h, hR6⟩ := h
  refine GC.join (α := Bool) J3 (fun x4 => [(3, .bool x4), (1, pv (some (b1, 0)))]) ?_ ?_
  · skip
    refine GC.seq ?_
    refine GC.region ?_
    refine GL.val trivial rfl (OV.fieldAddr (p := (b1, 0)) rfl rfl) ?_
    obtain ⟨x7, hr8, h⟩ := h
    refine GL.val trivial rfl (OV.load (p := ((b1, 0).1, (b1, 0).2 + 0)) rfl rfl hr8) ?_
    refine GL.nil ?_
    refine GC.block ?_
    refine GC.seq ?_
    refine GC.region ?_
    refine GL.val trivial rfl (OV.ibin (v := .bool ((x7 : Int) == 3)) rfl rfl rfl) ?_
    refine GL.val trivial rfl (OV.assign (v := .bool ((x7 : Int) == 3)) rfl) ?_
    refine GL.nil ?_
    refine GC.cond (b := (x7 : Int) == 3) rfl (fun hc9 => ?_) (fun hc9 => ?_)
    · replace h := And.left h hc9
      refine GC.region ?_
      refine GL.val trivial rfl (OV.fieldAddr (p := (b1, 0)) rfl rfl) ?_
      obtain ⟨x10, hr11, h⟩ := h
      refine GL.val trivial rfl (OV.load (p := ((b1, 0).1, (b1, 0).2 + 2)) rfl rfl hr11) ?_
      refine GL.call h trivial rfl ok_ref02_Digits (vs := [sv x10]) rfl ?_
      rintro _ H13 ⟨r12, rfl, h⟩
      refine GL.val trivial rfl (OV.ibin (v := .bool (decide ((r12 : Int) ≤ 200))) rfl rfl rfl) ?_
      refine GL.val trivial rfl (OV.assign (v := .bool (decide ((r12 : Int) ≤ 200))) rfl) ?_
      exact GL.jump (fun _ _ h => h) (decide ((r12 : Int) ≤ 200)) h ⟨rfl, rfl, trivial⟩
    · replace h := And.right h hc9
      refine GC.seq ?_
      refine GC.region ?_
      refine GL.val trivial rfl (OV.ibin (v := .bool ((x7 : Int) == 4)) rfl rfl rfl) ?_
      refine GL.val trivial rfl (OV.assign (v := .bool ((x7 : Int) == 4)) rfl) ?_
      refine GL.nil ?_
      refine GC.cond (b := (x7 : Int) == 4) rfl (fun hc14 => ?_) (fun hc14 => ?_)
      · replace h := And.left h hc14
        refine GC.region ?_
        refine GL.val trivial rfl (OV.fieldAddr (p := (b1, 0)) rfl rfl) ?_
        obtain ⟨x15, hr16, h⟩ := h
        refine GL.val trivial rfl (OV.load (p := ((b1, 0).1, (b1, 0).2 + 2)) rfl rfl hr16) ?_
        refine GL.val trivial rfl (OV.lenStr (s := x15) rfl rfl) ?_
        refine GL.val trivial rfl (OV.ibin (v := .bool (decide (((List.length x15 : Int) : Int) ≤ 4096))) rfl rfl rfl) ?_
        refine GL.val trivial rfl (OV.assign (v := .bool (decide (((List.length x15 : Int) : Int) ≤ 4096))) rfl) ?_
        exact GL.jump (fun _ _ h => h) (decide (((List.length x15 : Int) : Int) ≤ 4096)) h ⟨rfl, rfl, trivial⟩
      · replace h := And.right h hc14
        refine GC.seq ?_
        refine GC.region ?_
        refine GL.val trivial rfl (OV.ibin (v := .bool ((x7 : Int) == 5)) rfl rfl rfl) ?_
        refine GL.val trivial rfl (OV.assign (v := .bool ((x7 : Int) == 5)) rfl) ?_
        refine GL.nil ?_
        refine GC.cond (b := (x7 : Int) == 5) rfl (fun hc17 => ?_) (fun hc17 => ?_)
        · replace h := And.left h hc17
          refine GC.region ?_
          refine GL.val trivial rfl (OV.fieldAddr (p := (b1, 0)) rfl rfl) ?_
          obtain ⟨x18, hr19, h⟩ := h
          refine GL.val trivial rfl (OV.load (p := ((b1, 0).1, (b1, 0).2 + 3)) rfl rfl hr19) ?_
          refine GL.val trivial rfl (OV.lenSl (s := x18) rfl rfl) ?_
          refine GL.val trivial rfl (OV.ibin (v := .bool (decide (((Sl.len x18 : Int) : Int) ≤ 16))) rfl rfl rfl) ?_
          refine GL.val trivial rfl (OV.assign (v := .bool (decide (((Sl.len x18 : Int) : Int) ≤ 16))) rfl) ?_
          exact GL.jump (fun _ _ h => h) (decide (((Sl.len x18 : Int) : Int) ≤ 16)) h ⟨rfl, rfl, trivial⟩
        · replace h := And.right h hc17
          refine GC.seq ?_
          refine GC.region ?_
          refine GL.val trivial rfl (OV.ibin (v := .bool ((x7 : Int) == 6)) rfl rfl rfl) ?_
          refine GL.val trivial rfl (OV.assign (v := .bool ((x7 : Int) == 6)) rfl) ?_
          refine GL.nil ?_
          refine GC.cond (b := (x7 : Int) == 6) rfl (fun hc20 => ?_) (fun hc20 => ?_)
          · replace h := And.left h hc20
            refine GC.region ?_
            refine GL.val trivial rfl (OV.fieldAddr (p := (b1, 0)) rfl rfl) ?_
            obtain ⟨x21, hr22, h⟩ := h
            refine GL.val trivial rfl (OV.load (p := ((b1, 0).1, (b1, 0).2 + 3)) rfl rfl hr22) ?_
            refine GL.val trivial rfl (OV.lenSl (s := x21) rfl rfl) ?_
            refine GL.val trivial rfl (OV.ibin (v := .bool (decide (((Sl.len x21 : Int) : Int) ≤ 8))) rfl rfl rfl) ?_
            refine GL.val trivial rfl (OV.assign (v := .bool (decide (((Sl.len x21 : Int) : Int) ≤ 8))) rfl) ?_
            exact GL.jump (fun _ _ h => h) (decide (((Sl.len x21 : Int) : Int) ≤ 8)) h ⟨rfl, rfl, trivial⟩
          · replace h := And.right h hc20
            exact GC.jump (fun _ _ h => h) true h ⟨rfl, rfl, trivial⟩
  · intro x4 H5 h
    replace h := hR6 x4 H5 h
    refine GC.seq ?_
    refine GC.seq ?_
    refine GC.region ?_
    refine GL.val trivial rfl (OV.assign (v := .int .i64 0) rfl) ?_
    refine GL.nil ?_
    refine GC.block ?_
    refine GC.loop (α := Bool × Int) h (fun x23 => [(3, .bool x23.1), (4, .int .i64 x23.2), (1, pv (some (b1, 0)))]) ⟨rfl, rfl, rfl, trivial⟩ ?_
    intro x23 H25 J24 h
    refine GC.seq ?_
    refine GC.seq ?_
    refine GC.region ?_
    refine GL.val trivial rfl (OV.move (v := .int .i64 x23.2) rfl) ?_
    refine GL.val trivial rfl (OV.fieldAddr (p := (b1, 0)) rfl rfl) ?_
    obtain ⟨x26, hr27, h⟩ := h
    refine GL.val trivial rfl (OV.load (p := ((b1, 0).1, (b1, 0).2 + 3)) rfl rfl hr27) ?_
    refine GL.val trivial rfl (OV.lenSl (s := x26) rfl rfl) ?_
    refine GL.val trivial rfl (OV.ibin (v := .bool (decide ((x23.2 : Int) < (Sl.len x26 : Int)))) rfl rfl rfl) ?_
    refine GL.val trivial rfl (OV.move (v := .bool (decide ((x23.2 : Int) < (Sl.len x26 : Int)))) rfl) ?_
    refine GL.cut0 2 [(38, .bool ((decide ((x23.2 : Int) < (Sl.len x26 : Int))) && x23.1)), (1, pv (some (b1, 0))), (3, .bool x23.1), (4, .int .i64 x23.2)] ?_ ?_
    · rcases Bool.eq_false_or_eq_true (decide ((x23.2 : Int) < (Sl.len x26 : Int))) with hc28 | hc28
      · skip
        refine GL.val ⟨_, _, rfl, rfl, hc28⟩ rfl (OV.move (v := .bool x23.1) rfl) ?_
        refine GL.val trivial rfl (OV.pickT (b := decide ((x23.2 : Int) < (Sl.len x26 : Int))) (v := .bool x23.1) rfl hc28 rfl) ?_
        exact GL.jump0 (fun _ _ h => h) () rfl ⟨(by rw [hc28]; rfl), rfl, rfl, rfl, trivial⟩
      · skip
        refine GL.skip ⟨_, rfl, .inl ⟨_, rfl, hc28⟩⟩ rfl ?_
        refine GL.val trivial rfl (OV.pickF (b := decide ((x23.2 : Int) < (Sl.len x26 : Int))) (v := .bool false) rfl hc28 rfl) ?_
        exact GL.jump0 (fun _ _ h => h) () rfl ⟨(by rw [hc28]; rfl), rfl, rfl, rfl, trivial⟩
    refine GL.nil ?_
    refine GC.cond (b := (decide ((x23.2 : Int) < (Sl.len x26 : Int))) && x23.1) rfl (fun hc29 => ?_) (fun hc29 => ?_)
    · replace h := And.left h hc29
      refine GC.skip ?_
      refine GC.seq ?_
      refine GC.block ?_
      refine GC.region ?_
      refine GL.val trivial rfl (OV.fieldAddr (p := (b1, 0)) rfl rfl) ?_
      obtain ⟨x30, hr31, h⟩ := h
      refine GL.val trivial rfl (OV.load (p := ((b1, 0).1, (b1, 0).2 + 3)) rfl rfl hr31) ?_
      refine GL.val trivial rfl (OV.move (v := .int .i64 x23.2) rfl) ?_
      obtain ⟨p32, ha33, hb34, hc35, hd36, h⟩ := h
      refine GL.val trivial rfl (OV.indexAddr (s := x30) rfl rfl rfl rfl ha33 hb34 hc35 hd36) ?_
      obtain ⟨x37, hr38, h⟩ := h
      refine GL.val trivial rfl (OV.loadT (p := (p32.1, p32.2 + (x23.2 : Int).toNat * 4)) (cs := T_api_Value.c x37) rfl rfl rfl hr38) ?_
      refine GL.call h trivial rfl ok_ref02_fits (vs := [.agg (T_api_Value.c x37).toArray]) rfl ?_
      rintro _ H40 ⟨r39, rfl, h⟩
      refine GL.val trivial rfl (OV.assign (v := .bool r39) rfl) ?_
      refine GL.nil_to (fun _ _ h => h) ?_
      refine GC.region ?_
      refine GL.val trivial rfl (OV.move (v := .int .i64 x23.2) rfl) ?_
      refine GL.val trivial rfl (OV.ibin (v := .int .i64 (w .i64 (x23.2 + 1))) rfl rfl rfl) ?_
      refine GL.val trivial rfl (OV.assign (v := .int .i64 (w .i64 (x23.2 + 1))) rfl) ?_
      exact GL.jump (fun _ _ h => h) (r39, (w .i64 (x23.2 + 1))) h ⟨rfl, rfl, rfl, trivial⟩
    · replace h := And.right h hc29
      refine GC.exit_to (fun _ _ h => h) ?_
      refine GC.seq ?_
      refine GC.region ?_
      refine GL.val trivial rfl (OV.move (v := .bool x23.1) rfl) ?_
      refine GL.val trivial rfl (OV.assign (v := .bool x23.1) rfl) ?_
      refine GL.nil ?_
      exact GC.ret (fun _ _ hf hs => post_tmp1 rfl rfl hf hs ⟨x23.1, rfl, h⟩)

def sh_strings_Builder_copyCheck (C : Ctx) (p_b : Option (Nat × Nat)) (K : Heap → Prop) (H : Heap) : Prop :=
  nck p_b fun p1 =>
 ldP H (p1.1, p1.2 + 0) fun x3 =>
 ift (Option.isNone x3)
 (∃ p7, p_b = some p7 ∧ cvU p7 (
 cvP 67 2 p7 (
 nck p_b fun p10 =>
 sttG (p10.1, p10.2 + 0) (pv (some p7)) (fun H12 =>
 K H12) H) H) H)
 (nck p_b fun p13 =>
 ldP H (p13.1, p13.2 + 0) fun x15 =>
 ∃ p17, x15 = some p17 ∧ p_b = some p17 ∧
 ift false
 (False)
 (K H))

theorem ad_strings_Builder_copyCheck (C : Ctx) (p_b : Option (Nat × Nat)) (K : Heap → Prop) (H : Heap) (h : sh_strings_Builder_copyCheck C p_b K H) : c_strings_Builder_copyCheck C p_b K H := by
  refine Spec.enter Tryd.func45 rfl Tryd.ntmps45 rfl ?_
  refine GC.sub [(0, pv p_b)] ⟨rfl, trivial⟩ ?_
  refine GC.seq ?_
  refine GC.region ?_
  refine GL.val trivial rfl (OV.move (v := pv p_b) rfl) ?_
  obtain ⟨p1, hp2, h⟩ := h
  refine GL.val trivial rfl (OV.nilCheck (q := p_b) rfl hp2) ?_
  refine GL.val trivial rfl (OV.fieldAddr (p := p1) rfl rfl) ?_
  obtain ⟨x3, hr4, h⟩ := h
  refine GL.val trivial rfl (OV.load (p := (p1.1, p1.2 + 0)) rfl rfl hr4) ?_
  refine GL.val trivial rfl (OV.eqlNil (p := x3) rfl rfl rfl) ?_
  refine GL.nil ?_
  refine GC.cond (b := Option.isNone x3) rfl (fun hc5 => ?_) (fun hc5 => ?_)
  · replace h := And.left h hc5
    refine GC.region ?_
    refine GL.val trivial rfl (OV.move (v := pv p_b) rfl) ?_
    refine GL.val trivial rfl (OV.move (v := pv p_b) rfl) ?_
    obtain ⟨p7, hp8, hu6, h⟩ := h
    refine GL.val trivial rfl (OV.cvU (q := p_b) (p := p7) hp8 hu6 rfl rfl rfl ⟨_, rfl, by decide⟩) ?_
    refine GL.val trivial rfl (OV.ext ext_internal_abi_NoEscape (vs := [pv (some p7)]) (v := pv (some p7)) rfl (fun w => run_same _ w)) ?_
    obtain ⟨hu9, h⟩ := h
    refine GL.val trivial rfl (OV.cvP (T := 67) (len := 2) (p := p7) hu9 rfl rfl rfl ⟨_, rfl⟩ (by kernel_rfl)) ?_
    obtain ⟨p10, hp11, h⟩ := h
    refine GL.val trivial rfl (OV.nilCheck (q := p_b) rfl hp11) ?_
    refine GL.val trivial rfl (OV.fieldAddr (p := p10) rfl rfl) ?_
    refine GL.storeG (p := (p10.1, p10.2 + 0)) (v := pv (some p7)) h trivial rfl rfl rfl rfl ?_
    intro H12 h
    exact GL.ends (fun _ _ hf hs => post_tmp0 rfl hf hs ⟨rfl, h⟩)
  · replace h := And.right h hc5
    refine GC.seq ?_
    refine GC.region ?_
    refine GL.val trivial rfl (OV.move (v := pv p_b) rfl) ?_
    obtain ⟨p13, hp14, h⟩ := h
    refine GL.val trivial rfl (OV.nilCheck (q := p_b) rfl hp14) ?_
    refine GL.val trivial rfl (OV.fieldAddr (p := p13) rfl rfl) ?_
    obtain ⟨x15, hr16, h⟩ := h
    refine GL.val trivial rfl (OV.load (p := (p13.1, p13.2 + 0)) rfl rfl hr16) ?_
    refine GL.val trivial rfl (OV.move (v := pv p_b) rfl) ?_
    obtain ⟨p17, hp18, hq19, h⟩ := h
    refine GL.val trivial rfl (OV.neqSame (p := x15) (q := p_b) rfl rfl hp18 hq19 rfl rfl) ?_
    refine GL.nil ?_
    refine GC.cond (b := false) rfl (fun hc20 => ?_) (fun hc20 => ?_)
    · replace h := And.left h hc20
      exact GC.never h
    · replace h := And.right h hc20
      exact GC.ends (fun _ _ hf hs => post_tmp0 rfl hf hs ⟨rfl, h⟩)

def sh_internal_strconv_FormatBool (C : Ctx) (p_b : Bool) (K : Str → Heap → Prop) (H : Heap) : Prop :=
  ift p_b
 (K [116, 114, 117, 101] H)
 (K [102, 97, 108, 115, 101] H)

theorem ad_internal_strconv_FormatBool (C : Ctx) (p_b : Bool) (K : Str → Heap → Prop) (H : Heap) (h : sh_internal_strconv_FormatBool C p_b K H) : c_internal_strconv_FormatBool C p_b K H := by
  refine Spec.enter Tryd.func46 rfl Tryd.ntmps46 rfl ?_
  refine GC.sub [(0, .bool p_b)] ⟨rfl, trivial⟩ ?_
  refine GC.seq ?_
  refine GC.region ?_
  refine GL.val trivial rfl (OV.assign (v := sv []) rfl) ?_
  refine GL.nil ?_
  refine GC.seq ?_
  refine GC.seq ?_
  refine GC.region ?_
  refine GL.val trivial rfl (OV.move (v := .bool p_b) rfl) ?_
  refine GL.nil ?_
  refine GC.cond (b := p_b) rfl (fun hc1 => ?_) (fun hc1 => ?_)
  · replace h := And.left h hc1
    refine GC.seq ?_
    refine GC.region ?_
    refine GL.val trivial rfl (OV.assign (v := sv [116, 114, 117, 101]) rfl) ?_
    refine GL.nil ?_
    exact GC.ret (fun _ _ hf hs => post_tmp1 rfl rfl hf hs ⟨[116, 114, 117, 101], rfl, h⟩)
  · replace h := And.right h hc1
    refine GC.skip ?_
    refine GC.seq ?_
    refine GC.region ?_
    refine GL.val trivial rfl (OV.assign (v := sv [102, 97, 108, 115, 101]) rfl) ?_
    refine GL.nil ?_
    exact GC.ret (fun _ _ hf hs => post_tmp1 rfl rfl hf hs ⟨[102, 97, 108, 115, 101], rfl, h⟩)

def sh_strings_TrimPrefix (C : Ctx) (p_s : Str) (p_prefix : Str) (K : Str → Heap → Prop) (H : Heap) : Prop :=
  c_internal_stringslite_TrimPrefix C p_s p_prefix (fun r1 H2 =>
 K r1 H2) H

theorem ad_strings_TrimPrefix (C : Ctx) (p_s : Str) (p_prefix : Str) (K : Str → Heap → Prop) (H : Heap) (h : sh_strings_TrimPrefix C p_s p_prefix K H) : c_strings_TrimPrefix C p_s p_prefix K H := by
  refine Spec.enter Tryd.func48 rfl Tryd.ntmps48 rfl ?_
  refine GC.sub [(0, sv p_s), (1, sv p_prefix)] ⟨rfl, rfl, trivial⟩ ?_
  refine GC.seq ?_
  refine GC.region ?_
  refine GL.val trivial rfl (OV.assign (v := sv []) rfl) ?_
  refine GL.nil ?_
  refine GC.seq ?_
  refine GC.region ?_
  refine GL.val trivial rfl (OV.move (v := sv p_s) rfl) ?_
  refine GL.val trivial rfl (OV.move (v := sv p_prefix) rfl) ?_
  refine GL.call h trivial rfl ok_internal_stringslite_TrimPrefix (vs := [sv p_s, sv p_prefix]) rfl ?_
  rintro _ H2 ⟨r1, rfl, h⟩
  refine GL.val trivial rfl (OV.assign (v := sv r1) rfl) ?_
  refine GL.nil ?_
  exact GC.ret (fun _ _ hf hs => post_tmp1 rfl rfl hf hs ⟨r1, rfl, h⟩)

def sh_strings_Trim (C : Ctx) (p_s : Str) (p_cutset : Str) (K : Str → Heap → Prop) (H : Heap) : Prop :=
  ift ((p_s == ([] : Str)) || (p_cutset == ([] : Str)))
 (K p_s H)
 (jn (α := Bool) (fun b3 H10 =>
 ift b3
 (dr H10 fun Hs12 =>
 ixs p_cutset 0 fun c14 =>
 ixs p_cutset 0 fun c17 =>
 c_strings_trimRightByte C p_s (c14.toNat : Int) (fun r21 H22 =>
 Heap.le Hs12 H22 ∧
 c_strings_trimLeftByte C r21 (c17.toNat : Int) (fun r24 H25 =>
 Heap.le Hs12 H25 ∧
 K r24 H25) H22) H10)
 (c_strings_makeASCIISet C p_cutset (fun r26 r27 H28 =>
 nw ((List.replicate 256 (.bool false : Value))) (fun b29 H30 =>
 stC 256 (b29, 0) r26 (fun H31 =>
 ift r27
 (c_strings_trimRightASCII C p_s (some (b29, 0)) (fun r35 H36 =>
 c_strings_trimLeftASCII C r35 (some (b29, 0)) (fun r37 H38 =>
 K r37 H38) H36) H31)
 (c_strings_trimRightUnicode C p_s p_cutset (fun r39 H40 =>
 c_strings_trimLeftUnicode C r39 p_cutset (fun r41 H42 =>
 K r41 H42) H40) H31)) H30) H28) H10))
 (fun J4 => ift (((List.length p_cutset : Int) : Int) == 1)
 (ixs p_cutset 0 fun c7 =>
 J4 (decide (((c7.toNat : Int) : Int) < 128)) H)
 (J4 false H)))

theorem ad_strings_Trim (C : Ctx) (p_s : Str) (p_cutset : Str) (K : Str → Heap → Prop) (H : Heap) (h : sh_strings_Trim C p_s p_cutset K H) : c_strings_Trim C p_s p_cutset K H := by
  refine Spec.enter Tryd.func49 rfl Tryd.ntmps49 rfl ?_
  refine GC.sub [(0, sv p_s), (1, sv p_cutset)] ⟨rfl, rfl, trivial⟩ ?_
  refine GC.seq ?_
  refine GC.region ?_
  refine GL.val trivial rfl (OV.assign (v := sv []) rfl) ?_
  refine GL.nil ?_
  refine GC.seq ?_
  refine GC.seq ?_
  refine GC.region ?_
  refine GL.val trivial rfl (OV.move (v := sv p_s) rfl) ?_
  refine GL.val trivial rfl (OV.sbin (a := p_s) (b := ([] : Str)) (v := .bool (p_s == ([] : Str))) rfl rfl rfl) ?_
  refine GL.val trivial rfl (OV.move (v := .bool (p_s == ([] : Str))) rfl) ?_
  refine GL.cut0 3 [(12, .bool ((p_s == ([] : Str)) || (p_cutset == ([] : Str)))), (0, sv p_s), (1, sv p_cutset)] ?_ ?_
  · rcases Bool.eq_false_or_eq_true (p_s == ([] : Str)) with hc1 | hc1
    · skip
      refine GL.skip ⟨_, rfl, .inl ⟨_, rfl, hc1⟩⟩ rfl ?_
      refine GL.skip ⟨_, rfl, .inl ⟨_, rfl, hc1⟩⟩ rfl ?_
      refine GL.val trivial rfl (OV.pickT (b := p_s == ([] : Str)) (v := .bool true) rfl hc1 rfl) ?_
      exact GL.jump0 (fun _ _ h => h) () rfl ⟨(by rw [hc1]; rfl), rfl, rfl, trivial⟩
    · skip
      refine GL.val ⟨_, _, rfl, rfl, hc1⟩ rfl (OV.move (v := sv p_cutset) rfl) ?_
      refine GL.val ⟨_, _, rfl, rfl, hc1⟩ rfl (OV.sbin (a := p_cutset) (b := ([] : Str)) (v := .bool (p_cutset == ([] : Str))) rfl rfl rfl) ?_
      refine GL.val trivial rfl (OV.pickF (b := p_s == ([] : Str)) (v := .bool (p_cutset == ([] : Str))) rfl hc1 rfl) ?_
      exact GL.jump0 (fun _ _ h => h) () rfl ⟨(by rw [hc1]; rfl), rfl, rfl, trivial⟩
  refine GL.nil ?_
  refine GC.cond (b := (p_s == ([] : Str)) || (p_cutset == ([] : Str))) rfl (fun hc2 => ?_) (fun hc2 => ?_)
  · replace h := And.left h hc2
    refine GC.seq ?_
    refine GC.region ?_
    refine GL.val trivial rfl (OV.move (v := sv p_s) rfl) ?_
    refine GL.val trivial rfl (OV.assign (v := sv p_s) rfl) ?_
    refine GL.nil ?_
    exact GC.ret (fun _ _ hf hs => post_tmp1 rfl rfl hf hs ⟨p_s, rfl, h⟩)
  · replace h := And.right h hc2
    refine GC.skip ?_
    refine GC.seq ?_
    refine GC.seq ?_
    refine GC.region ?_
    refine GL.val trivial rfl (OV.move (v := sv p_cutset) rfl) ?_
    refine GL.val trivial rfl (OV.lenStr (s := p_cutset) rfl rfl) ?_
    refine GL.val trivial rfl (OV.ibin (v := .bool (((List.length p_cutset : Int) : Int) == 1)) rfl rfl rfl) ?_
    refine GL.val trivial rfl (OV.move (v := .bool (((List.length p_cutset : Int) : Int) == 1)) rfl) ?_
    obtain ⟨J4, h, hR5⟩ := h
    refine GL.cut (α := Bool) 4 J4 (fun b3 => [(21, .bool b3), (0, sv p_s), (1, sv p_cutset)]) ?_ ?_
    · rcases Bool.eq_false_or_eq_true (((List.length p_cutset : Int) : Int) == 1) with hc6 | hc6
      · skip
        replace h := And.left h hc6
        refine GL.val ⟨_, _, rfl, rfl, hc6⟩ rfl (OV.move (v := sv p_cutset) rfl) ?_
        obtain ⟨c7, ha8, hb9, h⟩ := h
        refine GL.val ⟨_, _, rfl, rfl, hc6⟩ rfl (OV.indexStr (s := p_cutset) rfl rfl rfl ha8 hb9) ?_
        refine GL.val ⟨_, _, rfl, rfl, hc6⟩ rfl (OV.ibin (v := .bool (decide (((c7.toNat : Int) : Int) < 128))) rfl rfl rfl) ?_
        refine GL.val trivial rfl (OV.pickT (b := ((List.length p_cutset : Int) : Int) == 1) (v := .bool (decide (((c7.toNat : Int) : Int) < 128))) rfl hc6 rfl) ?_
        exact GL.jump (fun _ _ h => h) (decide (((c7.toNat : Int) : Int) < 128)) h ⟨rfl, rfl, rfl, trivial⟩
      · skip
        replace h := And.right h hc6
        refine GL.skip ⟨_, rfl, .inl ⟨_, rfl, hc6⟩⟩ rfl ?_
        refine GL.skip ⟨_, rfl, .inl ⟨_, rfl, hc6⟩⟩ rfl ?_
        refine GL.skip ⟨_, rfl, .inl ⟨_, rfl, hc6⟩⟩ rfl ?_
        refine GL.val trivial rfl (OV.pickF (b := ((List.length p_cutset : Int) : Int) == 1) (v := .bool false) rfl hc6 rfl) ?_
        exact GL.jump (fun _ _ h => h) false h ⟨rfl, rfl, rfl, trivial⟩
    intro b3 H10 h
    replace h := hR5 b3 H10 h
    refine GL.nil ?_
    refine GC.cond (b := b3) rfl (fun hc11 => ?_) (fun hc11 => ?_)
    · replace h := And.left h hc11
      refine GC.seq ?_
      obtain ⟨Hs12, hle13, h⟩ := h
      refine GC.any (Hs := Hs12) (by kernel_rfl) hle13 ?_
      refine GA.take 0 rfl (by kernel_rfl) (by kernel_rfl) (by kernel_rfl) (fun _ _ _ h => False.elim h) trivial rfl (OV.move (v := sv p_s) rfl) ?_
      refine GA.take 1 rfl (by kernel_rfl) (by kernel_rfl) (by kernel_rfl) (fun _ _ _ h => False.elim h) trivial rfl (OV.move (v := sv p_cutset) rfl) ?_
      obtain ⟨c14, ha15, hb16, h⟩ := h
      refine GA.take 2 rfl (by kernel_rfl) (by kernel_rfl) (by kernel_rfl) (fun _ _ _ h => False.elim h) trivial rfl (OV.indexStr (s := p_cutset) rfl rfl rfl ha15 hb16) ?_
      refine GA.take 4 rfl (by kernel_rfl) (by kernel_rfl) (by kernel_rfl) (fun _ _ _ h => False.elim h) trivial rfl (OV.move (v := sv p_cutset) rfl) ?_
      obtain ⟨c17, ha18, hb19, h⟩ := h
      refine GA.take 5 rfl (by kernel_rfl) (by kernel_rfl) (by kernel_rfl) (fun _ _ _ h => False.elim h) trivial rfl (OV.indexStr (s := p_cutset) rfl rfl rfl ha18 hb19) ?_
      refine GA.eff 3 rfl (by kernel_rfl) ?_
      refine GL.call h trivial rfl ok_strings_trimRightByte (vs := [sv p_s, .int .u8 (c14.toNat : Int)]) rfl ?_
      rintro _ H22 ⟨r21, rfl, h⟩
      obtain ⟨hle20, h⟩ := h
      refine GA.back hle20 ?_
      refine GA.eff 6 rfl (by kernel_rfl) ?_
      refine GL.call h trivial rfl ok_strings_trimLeftByte (vs := [sv r21, .int .u8 (c17.toNat : Int)]) rfl ?_
      rintro _ H25 ⟨r24, rfl, h⟩
      obtain ⟨hle23, h⟩ := h
      refine GA.back hle23 ?_
      refine GA.take 7 rfl (by kernel_rfl) (by kernel_rfl) (by kernel_rfl) (fun _ _ _ h => False.elim h) trivial rfl (OV.assign (v := sv r24) rfl) ?_
      refine GA.done (by kernel_rfl) ?_
      refine GL.nil ?_
      exact GC.ret (fun _ _ hf hs => post_tmp1 rfl rfl hf hs ⟨r24, rfl, h⟩)
    · replace h := And.right h hc11
      refine GC.skip ?_
      refine GC.seq ?_
      refine GC.seq ?_
      refine GC.region ?_
      refine GL.val trivial rfl (OV.move (v := sv p_cutset) rfl) ?_
      refine GL.call h trivial rfl ok_strings_makeASCIISet (vs := [sv p_cutset]) rfl ?_
      rintro _ H28 ⟨r26, r27, rfl, h⟩
      refine GL.val trivial rfl (OV.move (v := .tuple #[.agg (List.toArray r26), .bool r27]) rfl) ?_
      refine GL.val trivial rfl (OV.extract (v := .agg (List.toArray r26)) rfl rfl) ?_
      refine GL.val trivial rfl (OV.extract (v := .bool r27) rfl rfl) ?_
      refine GL.alloc (cs := (List.replicate 256 (.bool false : Value))) h trivial rfl rfl rfl ?_
      intro b29 H30 h
      obtain ⟨hl32, h133, h⟩ := h
      refine GL.storeT (p := (b29, 0)) (vs := r26) h trivial rfl rfl h133 (by rw [hl32]; rfl) ?_
      intro H31 h
      refine GL.val trivial rfl (OV.assign (v := .bool r27) rfl) ?_
      refine GL.nil ?_
      refine GC.seq ?_
      refine GC.region ?_
      refine GL.val trivial rfl (OV.move (v := .bool r27) rfl) ?_
      refine GL.nil ?_
      refine GC.cond (b := r27) rfl (fun hc34 => ?_) (fun hc34 => ?_)
      · replace h := And.left h hc34
        refine GC.seq ?_
        refine GC.region ?_
        refine GL.val trivial rfl (OV.move (v := sv p_s) rfl) ?_
        refine GL.call h trivial rfl ok_strings_trimRightASCII (vs := [sv p_s, pv (some (b29, 0))]) rfl ?_
        rintro _ H36 ⟨r35, rfl, h⟩
        refine GL.call h trivial rfl ok_strings_trimLeftASCII (vs := [sv r35, pv (some (b29, 0))]) rfl ?_
        rintro _ H38 ⟨r37, rfl, h⟩
        refine GL.val trivial rfl (OV.assign (v := sv r37) rfl) ?_
        refine GL.nil ?_
        exact GC.ret (fun _ _ hf hs => post_tmp1 rfl rfl hf hs ⟨r37, rfl, h⟩)
      · replace h := And.right h hc34
        refine GC.skip ?_
        refine GC.seq ?_
        refine GC.region ?_
        refine GL.val trivial rfl (OV.move (v := sv p_s) rfl) ?_
        refine GL.val trivial rfl (OV.move (v := sv p_cutset) rfl) ?_
        refine GL.call h trivial rfl ok_strings_trimRightUnicode (vs := [sv p_s, sv p_cutset]) rfl ?_
        rintro _ H40 ⟨r39, rfl, h⟩
        refine GL.val trivial rfl (OV.move (v := sv p_cutset) rfl) ?_
        refine GL.call h trivial rfl ok_strings_trimLeftUnicode (vs := [sv r39, sv p_cutset]) rfl ?_
        rintro _ H42 ⟨r41, rfl, h⟩
        refine GL.val trivial rfl (OV.assign (v := sv r41) rfl) ?_
        refine GL.nil ?_
        exact GC.ret (fun _ _ hf hs => post_tmp1 rfl rfl hf hs ⟨r41, rfl, h⟩)

def sh_internal_stringslite_Cut (C : Ctx) (p_s : Str) (p_sep : Str) (K : Str → Str → Bool → Heap → Prop) (H : Heap) : Prop :=
  c_internal_stringslite_Index C p_s p_sep (fun r1 H2 =>
 ift (decide ((r1 : Int) ≥ 0))
 (slS p_s 0 r1 fun t4 =>
 slS p_s (w .i64 (r1 + (List.length p_sep : Int))) (List.length p_s : Int) fun t10 =>
 K t4 t10 true H2)
 (K p_s [] false H2)) H

theorem ad_internal_stringslite_Cut (C : Ctx) (p_s : Str) (p_sep : Str) (K : Str → Str → Bool → Heap → Prop) (H : Heap) (h : sh_internal_stringslite_Cut C p_s p_sep K H) : c_internal_stringslite_Cut C p_s p_sep K H := by
  refine Spec.enter Tryd.func50 rfl Tryd.ntmps50 rfl ?_
  refine GC.sub [(0, sv p_s), (1, sv p_sep)] ⟨rfl, rfl, trivial⟩ ?_
  refine GC.seq ?_
  refine GC.region ?_
  refine GL.val trivial rfl (OV.assign (v := sv []) rfl) ?_
  refine GL.val trivial rfl (OV.assign (v := sv []) rfl) ?_
  refine GL.val trivial rfl (OV.assign (v := .bool false) rfl) ?_
  refine GL.nil ?_
  refine GC.seq ?_
  refine GC.seq ?_
  refine GC.region ?_
  refine GL.val trivial rfl (OV.move (v := sv p_s) rfl) ?_
  refine GL.val trivial rfl (OV.move (v := sv p_sep) rfl) ?_
  refine GL.call h trivial rfl ok_internal_stringslite_Index (vs := [sv p_s, sv p_sep]) rfl ?_
  rintro _ H2 ⟨r1, rfl, h⟩
  refine GL.val trivial rfl (OV.assign (v := .int .i64 r1) rfl) ?_
  refine GL.nil ?_
  refine GC.seq ?_
  refine GC.region ?_
  refine GL.val trivial rfl (OV.move (v := .int .i64 r1) rfl) ?_
  refine GL.val trivial rfl (OV.ibin (v := .bool (decide ((r1 : Int) ≥ 0))) rfl rfl rfl) ?_
  refine GL.nil ?_
  refine GC.cond (b := decide ((r1 : Int) ≥ 0)) rfl (fun hc3 => ?_) (fun hc3 => ?_)
  · replace h := And.left h hc3
    refine GC.seq ?_
    refine GC.draw (by kernel_rfl) (by kernel_rfl) ?_
    refine GQ.val trivial rfl (OV.move (v := sv p_s) rfl) ?_
    refine GQ.val trivial rfl (OV.move (v := .int .i64 r1) rfl) ?_
    obtain ⟨h5, h6, h7, t4, h8, h⟩ := h
    refine GQ.val trivial rfl (OV.sliceStr (s := p_s) h5 h6 h7 h8 rfl rfl rfl rfl rfl rfl) ?_
    refine GQ.val trivial rfl (OV.move (v := sv p_s) rfl) ?_
    refine GQ.val trivial rfl (OV.move (v := .int .i64 r1) rfl) ?_
    refine GQ.val trivial rfl (OV.move (v := sv p_sep) rfl) ?_
    refine GQ.val trivial rfl (OV.lenStr (s := p_sep) rfl rfl) ?_
    refine GQ.val trivial rfl (OV.ibin (v := .int .i64 (w .i64 (r1 + (List.length p_sep : Int)))) rfl rfl rfl) ?_
    obtain ⟨h11, h12, h13, t10, h14, h⟩ := h
    refine GQ.val trivial rfl (OV.sliceStr (s := p_s) h11 h12 h13 h14 rfl rfl rfl rfl rfl rfl) ?_
    refine GQ.val trivial rfl (OV.assign (v := sv t4) rfl) ?_
    refine GQ.val trivial rfl (OV.assign (v := sv t10) rfl) ?_
    refine GQ.val trivial rfl (OV.assign (v := .bool true) rfl) ?_
    refine GQ.nil ?_
    refine GL.nil ?_
    exact GC.ret (fun _ _ hf hs => post_tmp3 rfl rfl rfl rfl hf hs ⟨t4, t10, true, rfl, h⟩)
  · replace h := And.right h hc3
    refine GC.skip ?_
    refine GC.seq ?_
    refine GC.region ?_
    refine GL.val trivial rfl (OV.move (v := sv p_s) rfl) ?_
    refine GL.val trivial rfl (OV.assign (v := sv p_s) rfl) ?_
    refine GL.val trivial rfl (OV.assign (v := sv []) rfl) ?_
    refine GL.val trivial rfl (OV.assign (v := .bool false) rfl) ?_
    refine GL.nil ?_
    exact GC.ret (fun _ _ hf hs => post_tmp3 rfl rfl rfl rfl hf hs ⟨p_s, [], false, rfl, h⟩)

def sh_ref02_Number (C : Ctx) (p_s : Str) (K : Bool → Heap → Prop) (H : Heap) : Prop :=
  jn (α := Str) (fun x2 H3 =>
 jn (α := Bool) (fun b24 H36 =>
 ift b24
 (K false H36)
 (lp (α := Int) 0 H36 (fun x38 J39 H40 =>
 ift (decide ((x38 : Int) < (List.length x2 : Int)))
 (ixs x2 x38 fun c42 =>
 jn (α := Bool) (fun b45 H52 =>
 ift b45
 (K false H52)
 (J39 (w .i64 (x38 + 1)) H52))
 (fun J46 => ift (decide (((c42.toNat : Int) : Int) < 48))
 (J46 true H40)
 (ixs x2 x38 fun c49 =>
 J46 (decide (((c49.toNat : Int) : Int) > 57)) H40)))
 (K true H40))))
 (fun J25 => ift (x2 == ([] : Str))
 (J25 true H3)
 (jn (α := Bool) (fun b28 H35 =>
 J25 b28 H35)
 (fun J29 => ift (decide (((List.length x2 : Int) : Int) > 1))
 (ixs x2 0 fun c32 =>
 J29 (((c32.toNat : Int) : Int) == 48) H3)
 (J29 false H3)))))
 (fun J1 => jn (α := Bool) (fun b5 H12 =>
 ift b5
 (slS p_s 1 (List.length p_s : Int) fun t14 =>
 ixs t14 0 fun c20 =>
 ift (((c20.toNat : Int) : Int) == 48)
 (K false H12)
 (J1 t14 H12))
 (J1 p_s H12))
 (fun J6 => ift (decide (((List.length p_s : Int) : Int) > 1))
 (ixs p_s 0 fun c9 =>
 J6 (((c9.toNat : Int) : Int) == 45) H)
 (J6 false H)))

theorem ad_ref02_Number (C : Ctx) (p_s : Str) (K : Bool → Heap → Prop) (H : Heap) (h : sh_ref02_Number C p_s K H) : c_ref02_Number C p_s K H := by
  refine Spec.enter Tryd.func51 rfl Tryd.ntmps51 rfl ?_
  refine GC.sub [(0, sv p_s)] ⟨rfl, trivial⟩ ?_
  refine GC.seq ?_
  refine GC.region ?_
  refine GL.val trivial rfl (OV.assign (v := .bool false) rfl) ?_
  refine GL.nil ?_
  obtain ⟨J1, h, hR4⟩ := h
  refine GC.join (α := Str) J1 (fun x2 => [(0, sv x2)]) ?_ ?_
  · skip
    refine GC.seq ?_
    refine GC.region ?_
    refine GL.val trivial rfl (OV.move (v := sv p_s) rfl) ?_
    refine GL.val trivial rfl (OV.lenStr (s := p_s) rfl rfl) ?_
    refine GL.val trivial rfl (OV.ibin (v := .bool (decide (((List.length p_s : Int) : Int) > 1))) rfl rfl rfl) ?_
    refine GL.val trivial rfl (OV.move (v := .bool (decide (((List.length p_s : Int) : Int) > 1))) rfl) ?_
    obtain ⟨J6, h, hR7⟩ := h
    refine GL.cut (α := Bool) 4 J6 (fun b5 => [(11, .bool b5), (0, sv p_s)]) ?_ ?_
    · rcases Bool.eq_false_or_eq_true (decide (((List.length p_s : Int) : Int) > 1)) with hc8 | hc8
      · skip
        replace h := And.left h hc8
        refine GL.val ⟨_, _, rfl, rfl, hc8⟩ rfl (OV.move (v := sv p_s) rfl) ?_
        obtain ⟨c9, ha10, hb11, h⟩ := h
        refine GL.val ⟨_, _, rfl, rfl, hc8⟩ rfl (OV.indexStr (s := p_s) rfl rfl rfl ha10 hb11) ?_
        refine GL.val ⟨_, _, rfl, rfl, hc8⟩ rfl (OV.ibin (v := .bool (((c9.toNat : Int) : Int) == 45)) rfl rfl rfl) ?_
        refine GL.val trivial rfl (OV.pickT (b := decide (((List.length p_s : Int) : Int) > 1)) (v := .bool (((c9.toNat : Int) : Int) == 45)) rfl hc8 rfl) ?_
        exact GL.jump (fun _ _ h => h) (((c9.toNat : Int) : Int) == 45) h ⟨rfl, rfl, trivial⟩
      · skip
        replace h := And.right h hc8
        refine GL.skip ⟨_, rfl, .inl ⟨_, rfl, hc8⟩⟩ rfl ?_
        refine GL.skip ⟨_, rfl, .inl ⟨_, rfl, hc8⟩⟩ rfl ?_
        refine GL.skip ⟨_, rfl, .inl ⟨_, rfl, hc8⟩⟩ rfl ?_
        refine GL.val trivial rfl (OV.pickF (b := decide (((List.length p_s : Int) : Int) > 1)) (v := .bool false) rfl hc8 rfl) ?_
        exact GL.jump (fun _ _ h => h) false h ⟨rfl, rfl, trivial⟩
    intro b5 H12 h
    replace h := hR7 b5 H12 h
    refine GL.nil ?_
    refine GC.cond (b := b5) rfl (fun hc13 => ?_) (fun hc13 => ?_)
    · replace h := And.left h hc13
      refine GC.seq ?_
      refine GC.region ?_
      refine GL.val trivial rfl (OV.move (v := sv p_s) rfl) ?_
      obtain ⟨h15, h16, h17, t14, h18, h⟩ := h
      refine GL.val trivial rfl (OV.sliceStr (s := p_s) h15 h16 h17 h18 rfl rfl rfl rfl rfl rfl) ?_
      refine GL.val trivial rfl (OV.assign (v := sv t14) rfl) ?_
      refine GL.nil ?_
      refine GC.seq ?_
      refine GC.region ?_
      refine GL.val trivial rfl (OV.move (v := sv t14) rfl) ?_
      obtain ⟨c20, ha21, hb22, h⟩ := h
      refine GL.val trivial rfl (OV.indexStr (s := t14) rfl rfl rfl ha21 hb22) ?_
      refine GL.val trivial rfl (OV.ibin (v := .bool (((c20.toNat : Int) : Int) == 48)) rfl rfl rfl) ?_
      refine GL.nil ?_
      refine GC.cond (b := ((c20.toNat : Int) : Int) == 48) rfl (fun hc23 => ?_) (fun hc23 => ?_)
      · replace h := And.left h hc23
        refine GC.seq ?_
        refine GC.region ?_
        refine GL.val trivial rfl (OV.assign (v := .bool false) rfl) ?_
        refine GL.nil ?_
        exact GC.ret (fun _ _ hf hs => post_tmp1 rfl rfl hf hs ⟨false, rfl, h⟩)
      · replace h := And.right h hc23
        exact GC.jump (fun _ _ h => h) t14 h ⟨rfl, trivial⟩
    · replace h := And.right h hc13
      exact GC.jump (fun _ _ h => h) p_s h ⟨rfl, trivial⟩
  · intro x2 H3 h
    replace h := hR4 x2 H3 h
    refine GC.seq ?_
    refine GC.seq ?_
    refine GC.region ?_
    refine GL.val trivial rfl (OV.move (v := sv x2) rfl) ?_
    refine GL.val trivial rfl (OV.sbin (a := x2) (b := ([] : Str)) (v := .bool (x2 == ([] : Str))) rfl rfl rfl) ?_
    refine GL.val trivial rfl (OV.move (v := .bool (x2 == ([] : Str))) rfl) ?_
    obtain ⟨J25, h, hR26⟩ := h
    refine GL.cut (α := Bool) 9 J25 (fun b24 => [(28, .bool b24), (0, sv x2)]) ?_ ?_
    · rcases Bool.eq_false_or_eq_true (x2 == ([] : Str)) with hc27 | hc27
      · skip
        replace h := And.left h hc27
        refine GL.skip ⟨_, rfl, .inl ⟨_, rfl, hc27⟩⟩ rfl ?_
        refine GL.skip ⟨_, rfl, .inl ⟨_, rfl, hc27⟩⟩ rfl ?_
        refine GL.skip ⟨_, rfl, .inl ⟨_, rfl, hc27⟩⟩ rfl ?_
        refine GL.skip ⟨_, rfl, .inl ⟨_, rfl, hc27⟩⟩ rfl ?_
        refine GL.skip ⟨_, rfl, .inr rfl⟩ rfl ?_
        refine GL.skip ⟨_, rfl, .inr rfl⟩ rfl ?_
        refine GL.skip ⟨_, rfl, .inr rfl⟩ rfl ?_
        refine GL.skip ⟨_, rfl, .inl ⟨_, rfl, hc27⟩⟩ rfl ?_
        refine GL.val trivial rfl (OV.pickT (b := x2 == ([] : Str)) (v := .bool true) rfl hc27 rfl) ?_
        exact GL.jump (fun _ _ h => h) true h ⟨rfl, rfl, trivial⟩
      · skip
        replace h := And.right h hc27
        refine GL.val ⟨_, _, rfl, rfl, hc27⟩ rfl (OV.move (v := sv x2) rfl) ?_
        refine GL.val ⟨_, _, rfl, rfl, hc27⟩ rfl (OV.lenStr (s := x2) rfl rfl) ?_
        refine GL.val ⟨_, _, rfl, rfl, hc27⟩ rfl (OV.ibin (v := .bool (decide (((List.length x2 : Int) : Int) > 1))) rfl rfl rfl) ?_
        refine GL.val ⟨_, _, rfl, rfl, hc27⟩ rfl (OV.move (v := .bool (decide (((List.length x2 : Int) : Int) > 1))) rfl) ?_
        obtain ⟨J29, h, hR30⟩ := h
        refine GL.cut (α := Bool) 4 J29 (fun b28 => [(27, .bool b28), (0, sv x2), (19, .bool (x2 == ([] : Str)))]) ?_ ?_
        · rcases Bool.eq_false_or_eq_true (decide (((List.length x2 : Int) : Int) > 1)) with hc31 | hc31
          · skip
            replace h := And.left h hc31
            refine GL.val ⟨_, _, rfl, rfl, hc31⟩ rfl (OV.move (v := sv x2) rfl) ?_
            obtain ⟨c32, ha33, hb34, h⟩ := h
            refine GL.val ⟨_, _, rfl, rfl, hc31⟩ rfl (OV.indexStr (s := x2) rfl rfl rfl ha33 hb34) ?_
            refine GL.val ⟨_, _, rfl, rfl, hc31⟩ rfl (OV.ibin (v := .bool (((c32.toNat : Int) : Int) == 48)) rfl rfl rfl) ?_
            refine GL.val ⟨_, _, rfl, rfl, hc27⟩ rfl (OV.pickT (b := decide (((List.length x2 : Int) : Int) > 1)) (v := .bool (((c32.toNat : Int) : Int) == 48)) rfl hc31 rfl) ?_
            exact GL.jump (fun _ _ h => h) (((c32.toNat : Int) : Int) == 48) h ⟨rfl, rfl, rfl, trivial⟩
          · skip
            replace h := And.right h hc31
            refine GL.skip ⟨_, rfl, .inl ⟨_, rfl, hc31⟩⟩ rfl ?_
            refine GL.skip ⟨_, rfl, .inl ⟨_, rfl, hc31⟩⟩ rfl ?_
            refine GL.skip ⟨_, rfl, .inl ⟨_, rfl, hc31⟩⟩ rfl ?_
            refine GL.val ⟨_, _, rfl, rfl, hc27⟩ rfl (OV.pickF (b := decide (((List.length x2 : Int) : Int) > 1)) (v := .bool false) rfl hc31 rfl) ?_
            exact GL.jump (fun _ _ h => h) false h ⟨rfl, rfl, rfl, trivial⟩
        intro b28 H35 h
        replace h := hR30 b28 H35 h
        refine GL.val trivial rfl (OV.pickF (b := x2 == ([] : Str)) (v := .bool b28) rfl hc27 rfl) ?_
        exact GL.jump (fun _ _ h => h) b28 h ⟨rfl, rfl, trivial⟩
    intro b24 H36 h
    replace h := hR26 b24 H36 h
    refine GL.nil ?_
    refine GC.cond (b := b24) rfl (fun hc37 => ?_) (fun hc37 => ?_)
    · replace h := And.left h hc37
      refine GC.seq ?_
      refine GC.region ?_
      refine GL.val trivial rfl (OV.assign (v := .bool false) rfl) ?_
      refine GL.nil ?_
      exact GC.ret (fun _ _ hf hs => post_tmp1 rfl rfl hf hs ⟨false, rfl, h⟩)
    · replace h := And.right h hc37
      refine GC.skip ?_
      refine GC.seq ?_
      refine GC.seq ?_
      refine GC.region ?_
      refine GL.val trivial rfl (OV.assign (v := .int .i64 0) rfl) ?_
      refine GL.nil ?_
      refine GC.block ?_
      refine GC.loop (α := Int) h (fun x38 => [(3, .int .i64 x38), (0, sv x2)]) ⟨rfl, rfl, trivial⟩ ?_
      intro x38 H40 J39 h
      refine GC.seq ?_
      refine GC.seq ?_
      refine GC.region ?_
      refine GL.val trivial rfl (OV.move (v := .int .i64 x38) rfl) ?_
      refine GL.val trivial rfl (OV.move (v := sv x2) rfl) ?_
      refine GL.val trivial rfl (OV.lenStr (s := x2) rfl rfl) ?_
      refine GL.val trivial rfl (OV.ibin (v := .bool (decide ((x38 : Int) < (List.length x2 : Int)))) rfl rfl rfl) ?_
      refine GL.nil ?_
      refine GC.cond (b := decide ((x38 : Int) < (List.length x2 : Int))) rfl (fun hc41 => ?_) (fun hc41 => ?_)
      · replace h := And.left h hc41
        refine GC.skip ?_
        refine GC.seq ?_
        refine GC.block ?_
        refine GC.seq ?_
        refine GC.region ?_
        refine GL.val trivial rfl (OV.move (v := sv x2) rfl) ?_
        refine GL.val trivial rfl (OV.move (v := .int .i64 x38) rfl) ?_
        obtain ⟨c42, ha43, hb44, h⟩ := h
        refine GL.val trivial rfl (OV.indexStr (s := x2) rfl rfl rfl ha43 hb44) ?_
        refine GL.val trivial rfl (OV.ibin (v := .bool (decide (((c42.toNat : Int) : Int) < 48))) rfl rfl rfl) ?_
        refine GL.val trivial rfl (OV.move (v := .bool (decide (((c42.toNat : Int) : Int) < 48))) rfl) ?_
        obtain ⟨J46, h, hR47⟩ := h
        refine GL.cut (α := Bool) 5 J46 (fun b45 => [(44, .bool b45), (0, sv x2), (3, .int .i64 x38)]) ?_ ?_
        · rcases Bool.eq_false_or_eq_true (decide (((c42.toNat : Int) : Int) < 48)) with hc48 | hc48
          · skip
            replace h := And.left h hc48
            refine GL.skip ⟨_, rfl, .inl ⟨_, rfl, hc48⟩⟩ rfl ?_
            refine GL.skip ⟨_, rfl, .inl ⟨_, rfl, hc48⟩⟩ rfl ?_
            refine GL.skip ⟨_, rfl, .inl ⟨_, rfl, hc48⟩⟩ rfl ?_
            refine GL.skip ⟨_, rfl, .inl ⟨_, rfl, hc48⟩⟩ rfl ?_
            refine GL.val trivial rfl (OV.pickT (b := decide (((c42.toNat : Int) : Int) < 48)) (v := .bool true) rfl hc48 rfl) ?_
            exact GL.jump (fun _ _ h => h) true h ⟨rfl, rfl, rfl, trivial⟩
          · skip
            replace h := And.right h hc48
            refine GL.val ⟨_, _, rfl, rfl, hc48⟩ rfl (OV.move (v := sv x2) rfl) ?_
            refine GL.val ⟨_, _, rfl, rfl, hc48⟩ rfl (OV.move (v := .int .i64 x38) rfl) ?_
            obtain ⟨c49, ha50, hb51, h⟩ := h
            refine GL.val ⟨_, _, rfl, rfl, hc48⟩ rfl (OV.indexStr (s := x2) rfl rfl rfl ha50 hb51) ?_
            refine GL.val ⟨_, _, rfl, rfl, hc48⟩ rfl (OV.ibin (v := .bool (decide (((c49.toNat : Int) : Int) > 57))) rfl rfl rfl) ?_
            refine GL.val trivial rfl (OV.pickF (b := decide (((c42.toNat : Int) : Int) < 48)) (v := .bool (decide (((c49.toNat : Int) : Int) > 57))) rfl hc48 rfl) ?_
            exact GL.jump (fun _ _ h => h) (decide (((c49.toNat : Int) : Int) > 57)) h ⟨rfl, rfl, rfl, trivial⟩
        intro b45 H52 h
        replace h := hR47 b45 H52 h
        refine GL.nil ?_
        refine GC.cond (b := b45) rfl (fun hc53 => ?_) (fun hc53 => ?_)
        · replace h := And.left h hc53
          refine GC.seq ?_
          refine GC.region ?_
          refine GL.val trivial rfl (OV.assign (v := .bool false) rfl) ?_
          refine GL.nil ?_
          exact GC.ret (fun _ _ hf hs => post_tmp1 rfl rfl hf hs ⟨false, rfl, h⟩)
        · replace h := And.right h hc53
          refine GC.skip_to (fun _ _ h => h) ?_
          refine GC.region ?_
          refine GL.val trivial rfl (OV.move (v := .int .i64 x38) rfl) ?_
          refine GL.val trivial rfl (OV.ibin (v := .int .i64 (w .i64 (x38 + 1))) rfl rfl rfl) ?_
          refine GL.val trivial rfl (OV.assign (v := .int .i64 (w .i64 (x38 + 1))) rfl) ?_
          exact GL.jump (fun _ _ h => h) (w .i64 (x38 + 1)) h ⟨rfl, rfl, trivial⟩
      · replace h := And.right h hc41
        refine GC.exit_to (fun _ _ h => h) ?_
        refine GC.seq ?_
        refine GC.region ?_
        refine GL.val trivial rfl (OV.assign (v := .bool true) rfl) ?_
        refine GL.nil ?_
        exact GC.ret (fun _ _ hf hs => post_tmp1 rfl rfl hf hs ⟨true, rfl, h⟩)

def sh_ref02_Names (C : Ctx) (p_s : Str) (K : Bool → Heap → Prop) (H : Heap) : Prop :=
  ift ((p_s == ([116, 114, 117, 101] : Str)) || (p_s == ([102, 97, 108, 115, 101] : Str)))
 (K false H)
 (lp (α := Int) 0 H (fun x3 J4 H5 =>
 ift (decide ((x3 : Int) < (List.length p_s : Int)))
 (ixs p_s x3 fun c7 =>
 ift (((c7.toNat : Int) : Int) == 46)
 (slS p_s 0 x3 fun t11 =>
 c_ref02_Name C t11 (fun r17 H18 =>
 jn (α := Bool) (fun b19 H31 =>
 K b19 H31)
 (fun J20 => ift r17
 (slS p_s (w .i64 (x3 + 1)) (List.length p_s : Int) fun t23 =>
 c_ref02_Name C t23 (fun r29 H30 =>
 J20 r29 H30) H18)
 (J20 false H18))) H5)
 (J4 (w .i64 (x3 + 1)) H5))
 (c_ref02_Name C p_s (fun r32 H33 =>
 K r32 H33) H5)))

theorem ad_ref02_Names (C : Ctx) (p_s : Str) (K : Bool → Heap → Prop) (H : Heap) (h : sh_ref02_Names C p_s K H) : c_ref02_Names C p_s K H := by
  refine Spec.enter Tryd.func52 rfl Tryd.ntmps52 rfl ?_
  refine GC.sub [(0, sv p_s)] ⟨rfl, trivial⟩ ?_
  refine GC.seq ?_
  refine GC.region ?_
  refine GL.val trivial rfl (OV.assign (v := .bool false) rfl) ?_
  refine GL.nil ?_
  refine GC.seq ?_
  refine GC.seq ?_
  refine GC.region ?_
  refine GL.val trivial rfl (OV.move (v := sv p_s) rfl) ?_
  refine GL.val trivial rfl (OV.sbin (a := p_s) (b := ([116, 114, 117, 101] : Str)) (v := .bool (p_s == ([116, 114, 117, 101] : Str))) rfl rfl rfl) ?_
  refine GL.val trivial rfl (OV.move (v := .bool (p_s == ([116, 114, 117, 101] : Str))) rfl) ?_
  refine GL.cut0 3 [(9, .bool ((p_s == ([116, 114, 117, 101] : Str)) || (p_s == ([102, 97, 108, 115, 101] : Str)))), (0, sv p_s)] ?_ ?_
  · rcases Bool.eq_false_or_eq_true (p_s == ([116, 114, 117, 101] : Str)) with hc1 | hc1
    · skip
      refine GL.skip ⟨_, rfl, .inl ⟨_, rfl, hc1⟩⟩ rfl ?_
      refine GL.skip ⟨_, rfl, .inl ⟨_, rfl, hc1⟩⟩ rfl ?_
      refine GL.val trivial rfl (OV.pickT (b := p_s == ([116, 114, 117, 101] : Str)) (v := .bool true) rfl hc1 rfl) ?_
      exact GL.jump0 (fun _ _ h => h) () rfl ⟨(by rw [hc1]; rfl), rfl, trivial⟩
    · skip
      refine GL.val ⟨_, _, rfl, rfl, hc1⟩ rfl (OV.move (v := sv p_s) rfl) ?_
      refine GL.val ⟨_, _, rfl, rfl, hc1⟩ rfl (OV.sbin (a := p_s) (b := ([102, 97, 108, 115, 101] : Str)) (v := .bool (p_s == ([102, 97, 108, 115, 101] : Str))) rfl rfl rfl) ?_
      refine GL.val trivial rfl (OV.pickF (b := p_s == ([116, 114, 117, 101] : Str)) (v := .bool (p_s == ([102, 97, 108, 115, 101] : Str))) rfl hc1 rfl) ?_
      exact GL.jump0 (fun _ _ h => h) () rfl ⟨(by rw [hc1]; rfl), rfl, trivial⟩
  refine GL.nil ?_
  refine GC.cond (b := (p_s == ([116, 114, 117, 101] : Str)) || (p_s == ([102, 97, 108, 115, 101] : Str))) rfl (fun hc2 => ?_) (fun hc2 => ?_)
  · replace h := And.left h hc2
    refine GC.seq ?_
    refine GC.region ?_
    refine GL.val trivial rfl (OV.assign (v := .bool false) rfl) ?_
    refine GL.nil ?_
    exact GC.ret (fun _ _ hf hs => post_tmp1 rfl rfl hf hs ⟨false, rfl, h⟩)
  · replace h := And.right h hc2
    refine GC.skip ?_
    refine GC.seq ?_
    refine GC.seq ?_
    refine GC.region ?_
    refine GL.val trivial rfl (OV.assign (v := .int .i64 0) rfl) ?_
    refine GL.nil ?_
    refine GC.block ?_
    refine GC.loop (α := Int) h (fun x3 => [(3, .int .i64 x3), (0, sv p_s)]) ⟨rfl, rfl, trivial⟩ ?_
    intro x3 H5 J4 h
    refine GC.seq ?_
    refine GC.seq ?_
    refine GC.region ?_
    refine GL.val trivial rfl (OV.move (v := .int .i64 x3) rfl) ?_
    refine GL.val trivial rfl (OV.move (v := sv p_s) rfl) ?_
    refine GL.val trivial rfl (OV.lenStr (s := p_s) rfl rfl) ?_
    refine GL.val trivial rfl (OV.ibin (v := .bool (decide ((x3 : Int) < (List.length p_s : Int)))) rfl rfl rfl) ?_
    refine GL.nil ?_
    refine GC.cond (b := decide ((x3 : Int) < (List.length p_s : Int))) rfl (fun hc6 => ?_) (fun hc6 => ?_)
    · replace h := And.left h hc6
      refine GC.skip ?_
      refine GC.seq ?_
      refine GC.block ?_
      refine GC.seq ?_
      refine GC.region ?_
      refine GL.val trivial rfl (OV.move (v := sv p_s) rfl) ?_
      refine GL.val trivial rfl (OV.move (v := .int .i64 x3) rfl) ?_
      obtain ⟨c7, ha8, hb9, h⟩ := h
      refine GL.val trivial rfl (OV.indexStr (s := p_s) rfl rfl rfl ha8 hb9) ?_
      refine GL.val trivial rfl (OV.ibin (v := .bool (((c7.toNat : Int) : Int) == 46)) rfl rfl rfl) ?_
      refine GL.nil ?_
      refine GC.cond (b := ((c7.toNat : Int) : Int) == 46) rfl (fun hc10 => ?_) (fun hc10 => ?_)
      · replace h := And.left h hc10
        refine GC.seq ?_
        refine GC.region ?_
        refine GL.val trivial rfl (OV.move (v := sv p_s) rfl) ?_
        refine GL.val trivial rfl (OV.move (v := .int .i64 x3) rfl) ?_
        obtain ⟨h12, h13, h14, t11, h15, h⟩ := h
        refine GL.val trivial rfl (OV.sliceStr (s := p_s) h12 h13 h14 h15 rfl rfl rfl rfl rfl rfl) ?_
        refine GL.call h trivial rfl ok_ref02_Name (vs := [sv t11]) rfl ?_
        rintro _ H18 ⟨r17, rfl, h⟩
        refine GL.val trivial rfl (OV.move (v := .bool r17) rfl) ?_
        obtain ⟨J20, h, hR21⟩ := h
        refine GL.cut (α := Bool) 6 J20 (fun b19 => [(30, .bool b19)]) ?_ ?_
        · rcases Bool.eq_false_or_eq_true r17 with hc22 | hc22
          · skip
            replace h := And.left h hc22
            refine GL.val ⟨_, _, rfl, rfl, hc22⟩ rfl (OV.move (v := sv p_s) rfl) ?_
            refine GL.val ⟨_, _, rfl, rfl, hc22⟩ rfl (OV.move (v := .int .i64 x3) rfl) ?_
            refine GL.val ⟨_, _, rfl, rfl, hc22⟩ rfl (OV.ibin (v := .int .i64 (w .i64 (x3 + 1))) rfl rfl rfl) ?_
            obtain ⟨h24, h25, h26, t23, h27, h⟩ := h
            refine GL.val ⟨_, _, rfl, rfl, hc22⟩ rfl (OV.sliceStr (s := p_s) h24 h25 h26 h27 rfl rfl rfl rfl rfl rfl) ?_
            refine GL.call h ⟨_, _, rfl, rfl, hc22⟩ rfl ok_ref02_Name (vs := [sv t23]) rfl ?_
            rintro _ H30 ⟨r29, rfl, h⟩
            refine GL.val trivial rfl (OV.pickT (b := r17) (v := .bool r29) rfl hc22 rfl) ?_
            exact GL.jump (fun _ _ h => h) r29 h ⟨rfl, trivial⟩
          · skip
            replace h := And.right h hc22
            refine GL.skip ⟨_, rfl, .inl ⟨_, rfl, hc22⟩⟩ rfl ?_
            refine GL.skip ⟨_, rfl, .inl ⟨_, rfl, hc22⟩⟩ rfl ?_
            refine GL.skip ⟨_, rfl, .inl ⟨_, rfl, hc22⟩⟩ rfl ?_
            refine GL.skip ⟨_, rfl, .inl ⟨_, rfl, hc22⟩⟩ rfl ?_
            refine GL.skip ⟨_, rfl, .inl ⟨_, rfl, hc22⟩⟩ rfl ?_
            refine GL.val trivial rfl (OV.pickF (b := r17) (v := .bool false) rfl hc22 rfl) ?_
            exact GL.jump (fun _ _ h => h) false h ⟨rfl, trivial⟩
        intro b19 H31 h
        replace h := hR21 b19 H31 h
        refine GL.val trivial rfl (OV.assign (v := .bool b19) rfl) ?_
        refine GL.nil ?_
        exact GC.ret (fun _ _ hf hs => post_tmp1 rfl rfl hf hs ⟨b19, rfl, h⟩)
      · replace h := And.right h hc10
        refine GC.skip_to (fun _ _ h => h) ?_
        refine GC.region ?_
        refine GL.val trivial rfl (OV.move (v := .int .i64 x3) rfl) ?_
        refine GL.val trivial rfl (OV.ibin (v := .int .i64 (w .i64 (x3 + 1))) rfl rfl rfl) ?_
        refine GL.val trivial rfl (OV.assign (v := .int .i64 (w .i64 (x3 + 1))) rfl) ?_
        exact GL.jump (fun _ _ h => h) (w .i64 (x3 + 1)) h ⟨rfl, rfl, trivial⟩
    · replace h := And.right h hc6
      refine GC.exit_to (fun _ _ h => h) ?_
      refine GC.seq ?_
      refine GC.region ?_
      refine GL.val trivial rfl (OV.move (v := sv p_s) rfl) ?_
      refine GL.call h trivial rfl ok_ref02_Name (vs := [sv p_s]) rfl ?_
      rintro _ H33 ⟨r32, rfl, h⟩
      refine GL.val trivial rfl (OV.assign (v := .bool r32) rfl) ?_
      refine GL.nil ?_
      exact GC.ret (fun _ _ hf hs => post_tmp1 rfl rfl hf hs ⟨r32, rfl, h⟩)

def sh_ref02_Digits (C : Ctx) (p_s : Str) (K : Int → Heap → Prop) (H : Heap) : Prop :=
  ixs p_s 0 fun c1 =>
 ift (((c1.toNat : Int) : Int) == 45)
 (K (w .i64 ((List.length p_s : Int) - 1)) H)
 (K (List.length p_s : Int) H)

theorem ad_ref02_Digits (C : Ctx) (p_s : Str) (K : Int → Heap → Prop) (H : Heap) (h : sh_ref02_Digits C p_s K H) : c_ref02_Digits C p_s K H := by
  refine Spec.enter Tryd.func53 rfl Tryd.ntmps53 rfl ?_
  refine GC.sub [(0, sv p_s)] ⟨rfl, trivial⟩ ?_
  refine GC.seq ?_
  refine GC.region ?_
  refine GL.val trivial rfl (OV.assign (v := .int .i64 0) rfl) ?_
  refine GL.nil ?_
  refine GC.seq ?_
  refine GC.seq ?_
  refine GC.region ?_
  refine GL.val trivial rfl (OV.move (v := sv p_s) rfl) ?_
  obtain ⟨c1, ha2, hb3, h⟩ := h
  refine GL.val trivial rfl (OV.indexStr (s := p_s) rfl rfl rfl ha2 hb3) ?_
  refine GL.val trivial rfl (OV.ibin (v := .bool (((c1.toNat : Int) : Int) == 45)) rfl rfl rfl) ?_
  refine GL.nil ?_
  refine GC.cond (b := ((c1.toNat : Int) : Int) == 45) rfl (fun hc4 => ?_) (fun hc4 => ?_)
  · replace h := And.left h hc4
    refine GC.seq ?_
    refine GC.region ?_
    refine GL.val trivial rfl (OV.move (v := sv p_s) rfl) ?_
    refine GL.val trivial rfl (OV.lenStr (s := p_s) rfl rfl) ?_
    refine GL.val trivial rfl (OV.ibin (v := .int .i64 (w .i64 ((List.length p_s : Int) - 1))) rfl rfl rfl) ?_
    refine GL.val trivial rfl (OV.assign (v := .int .i64 (w .i64 ((List.length p_s : Int) - 1))) rfl) ?_
    refine GL.nil ?_
    exact GC.ret (fun _ _ hf hs => post_tmp1 rfl rfl hf hs ⟨(w .i64 ((List.length p_s : Int) - 1)), rfl, h⟩)
  · replace h := And.right h hc4
    refine GC.skip ?_
    refine GC.seq ?_
    refine GC.region ?_
    refine GL.val trivial rfl (OV.move (v := sv p_s) rfl) ?_
    refine GL.val trivial rfl (OV.lenStr (s := p_s) rfl rfl) ?_
    refine GL.val trivial rfl (OV.assign (v := .int .i64 (List.length p_s : Int)) rfl) ?_
    refine GL.nil ?_
    exact GC.ret (fun _ _ hf hs => post_tmp1 rfl rfl hf hs ⟨(List.length p_s : Int), rfl, h⟩)

def sh_internal_stringslite_TrimPrefix (C : Ctx) (p_s : Str) (p_prefix : Str) (K : Str → Heap → Prop) (H : Heap) : Prop :=
  c_internal_stringslite_HasPrefix C p_s p_prefix (fun r1 H2 =>
 ift r1
 (slS p_s (List.length p_prefix : Int) (List.length p_s : Int) fun t4 =>
 K t4 H2)
 (K p_s H2)) H

theorem ad_internal_stringslite_TrimPrefix (C : Ctx) (p_s : Str) (p_prefix : Str) (K : Str → Heap → Prop) (H : Heap) (h : sh_internal_stringslite_TrimPrefix C p_s p_prefix K H) : c_internal_stringslite_TrimPrefix C p_s p_prefix K H := by
  refine Spec.enter Tryd.func59 rfl Tryd.ntmps59 rfl ?_
  refine GC.sub [(0, sv p_s), (1, sv p_prefix)] ⟨rfl, rfl, trivial⟩ ?_
  refine GC.seq ?_
  refine GC.region ?_
  refine GL.val trivial rfl (OV.assign (v := sv []) rfl) ?_
  refine GL.nil ?_
  refine GC.seq ?_
  refine GC.seq ?_
  refine GC.region ?_
  refine GL.val trivial rfl (OV.move (v := sv p_s) rfl) ?_
  refine GL.val trivial rfl (OV.move (v := sv p_prefix) rfl) ?_
  refine GL.call h trivial rfl ok_internal_stringslite_HasPrefix (vs := [sv p_s, sv p_prefix]) rfl ?_
  rintro _ H2 ⟨r1, rfl, h⟩
  refine GL.nil ?_
  refine GC.cond (b := r1) rfl (fun hc3 => ?_) (fun hc3 => ?_)
  · replace h := And.left h hc3
    refine GC.seq ?_
    refine GC.region ?_
    refine GL.val trivial rfl (OV.move (v := sv p_s) rfl) ?_
    refine GL.val trivial rfl (OV.move (v := sv p_prefix) rfl) ?_
    refine GL.val trivial rfl (OV.lenStr (s := p_prefix) rfl rfl) ?_
    obtain ⟨h5, h6, h7, t4, h8, h⟩ := h
    refine GL.val trivial rfl (OV.sliceStr (s := p_s) h5 h6 h7 h8 rfl rfl rfl rfl rfl rfl) ?_
    refine GL.val trivial rfl (OV.assign (v := sv t4) rfl) ?_
    refine GL.nil ?_
    exact GC.ret (fun _ _ hf hs => post_tmp1 rfl rfl hf hs ⟨t4, rfl, h⟩)
  · replace h := And.right h hc3
    refine GC.skip ?_
    refine GC.seq ?_
    refine GC.region ?_
    refine GL.val trivial rfl (OV.move (v := sv p_s) rfl) ?_
    refine GL.val trivial rfl (OV.assign (v := sv p_s) rfl) ?_
    refine GL.nil ?_
    exact GC.ret (fun _ _ hf hs => post_tmp1 rfl rfl hf hs ⟨p_s, rfl, h⟩)

def sh_strings_makeASCIISet (C : Ctx) (p_chars : Str) (K : List Value → Bool → Heap → Prop) (H : Heap) : Prop :=
  nw ((List.replicate 256 (.bool false : Value))) (fun b1 H2 =>
 lp (α := Int) 0 H2 (fun x3 J4 H5 =>
 ift (decide ((x3 : Int) < (List.length p_chars : Int)))
 (ixs p_chars x3 fun c7 =>
 ift (decide (((c7.toNat : Int) : Int) ≥ 128))
 (ldC H5 256 (b1, 0) fun x11 =>
 stC 256 (b1, 0) x11 (fun H14 =>
 ldC H14 256 (b1, 0) fun x17 =>
 K x17 false H14) H5)
 (ixr (b1, 0) 256 (c7.toNat : Int) <|
 st ((b1, 0).1, (b1, 0).2 + ((c7.toNat : Int) : Int).toNat * 1) (.bool true) (fun H22 =>
 J4 (w .i64 (x3 + 1)) H22) H5))
 (ldC H5 256 (b1, 0) fun x23 =>
 stC 256 (b1, 0) x23 (fun H26 =>
 ldC H26 256 (b1, 0) fun x29 =>
 K x29 true H26) H5))) H

theorem ad_strings_makeASCIISet (C : Ctx) (p_chars : Str) (K : List Value → Bool → Heap → Prop) (H : Heap) (h : sh_strings_makeASCIISet C p_chars K H) : c_strings_makeASCIISet C p_chars K H := by
  refine Spec.enter Tryd.func62 rfl Tryd.ntmps62 rfl ?_
  refine GC.sub [(0, sv p_chars)] ⟨rfl, trivial⟩ ?_
  refine GC.seq ?_
  refine GC.region ?_
  refine GL.alloc (cs := (List.replicate 256 (.bool false : Value))) h trivial rfl rfl rfl ?_
  intro b1 H2 h
  refine GL.val trivial rfl (OV.assign (v := .bool false) rfl) ?_
  refine GL.nil ?_
  refine GC.seq ?_
  refine GC.seq ?_
  refine GC.region ?_
  refine GL.val trivial rfl (OV.assign (v := .int .i64 0) rfl) ?_
  refine GL.nil ?_
  refine GC.block ?_
  refine GC.loop (α := Int) h (fun x3 => [(4, .int .i64 x3), (0, sv p_chars), (2, pv (some (b1, 0)))]) ⟨rfl, rfl, rfl, trivial⟩ ?_
  intro x3 H5 J4 h
  refine GC.seq ?_
  refine GC.seq ?_
  refine GC.region ?_
  refine GL.val trivial rfl (OV.move (v := .int .i64 x3) rfl) ?_
  refine GL.val trivial rfl (OV.move (v := sv p_chars) rfl) ?_
  refine GL.val trivial rfl (OV.lenStr (s := p_chars) rfl rfl) ?_
  refine GL.val trivial rfl (OV.ibin (v := .bool (decide ((x3 : Int) < (List.length p_chars : Int)))) rfl rfl rfl) ?_
  refine GL.nil ?_
  refine GC.cond (b := decide ((x3 : Int) < (List.length p_chars : Int))) rfl (fun hc6 => ?_) (fun hc6 => ?_)
  · replace h := And.left h hc6
    refine GC.skip ?_
    refine GC.seq ?_
    refine GC.block ?_
    refine GC.seq ?_
    refine GC.region ?_
    refine GL.val trivial rfl (OV.move (v := sv p_chars) rfl) ?_
    refine GL.val trivial rfl (OV.move (v := .int .i64 x3) rfl) ?_
    obtain ⟨c7, ha8, hb9, h⟩ := h
    refine GL.val trivial rfl (OV.indexStr (s := p_chars) rfl rfl rfl ha8 hb9) ?_
    refine GL.val trivial rfl (OV.assign (v := .int .u8 (c7.toNat : Int)) rfl) ?_
    refine GL.nil ?_
    refine GC.seq ?_
    refine GC.seq ?_
    refine GC.region ?_
    refine GL.val trivial rfl (OV.move (v := .int .u8 (c7.toNat : Int)) rfl) ?_
    refine GL.val trivial rfl (OV.ibin (v := .bool (decide (((c7.toNat : Int) : Int) ≥ 128))) rfl rfl rfl) ?_
    refine GL.nil ?_
    refine GC.cond (b := decide (((c7.toNat : Int) : Int) ≥ 128)) rfl (fun hc10 => ?_) (fun hc10 => ?_)
    · replace h := And.left h hc10
      refine GC.seq ?_
      refine GC.region ?_
      obtain ⟨x11, hl13, hr12, h⟩ := h
      refine GL.val trivial rfl (OV.loadT (p := (b1, 0)) (cs := x11) rfl rfl (by rw [hl13]; rfl) hr12) ?_
      obtain ⟨hl15, h116, h⟩ := h
      refine GL.storeT (p := (b1, 0)) (vs := x11) h trivial rfl rfl h116 (by rw [hl15]; rfl) ?_
      intro H14 h
      refine GL.val trivial rfl (OV.assign (v := .bool false) rfl) ?_
      refine GL.nil ?_
      obtain ⟨x17, hl19, hr18, h⟩ := h
      exact GC.ret (fun _ _ hf hs => post_res2 rfl (RV.cellT (p := (b1, 0)) (cs := x17) rfl rfl (by rw [hl19]; rfl) hr18) (RV.tmp rfl) hf hs ⟨x17, false, rfl, h⟩)
    · replace h := And.right h hc10
      refine GC.skip ?_
      refine GC.region ?_
      refine GL.val trivial rfl (OV.move (v := .int .u8 (c7.toNat : Int)) rfl) ?_
      obtain ⟨ha20, hb21, h⟩ := h
      refine GL.val trivial rfl (OV.indexAddrA (p := (b1, 0)) rfl rfl rfl rfl ha20 hb21) ?_
      refine GL.store (p := ((b1, 0).1, (b1, 0).2 + ((c7.toNat : Int) : Int).toNat * 1)) (v := .bool true) h trivial rfl rfl rfl rfl ?_
      intro H22 h
      refine GL.nil_to (fun _ _ h => h) ?_
      refine GC.region ?_
      refine GL.val trivial rfl (OV.move (v := .int .i64 x3) rfl) ?_
      refine GL.val trivial rfl (OV.ibin (v := .int .i64 (w .i64 (x3 + 1))) rfl rfl rfl) ?_
      refine GL.val trivial rfl (OV.assign (v := .int .i64 (w .i64 (x3 + 1))) rfl) ?_
      exact GL.jump (fun _ _ h => h) (w .i64 (x3 + 1)) h ⟨rfl, rfl, rfl, trivial⟩
  · replace h := And.right h hc6
    refine GC.exit_to (fun _ _ h => h) ?_
    refine GC.seq ?_
    refine GC.region ?_
    obtain ⟨x23, hl25, hr24, h⟩ := h
    refine GL.val trivial rfl (OV.loadT (p := (b1, 0)) (cs := x23) rfl rfl (by rw [hl25]; rfl) hr24) ?_
    obtain ⟨hl27, h128, h⟩ := h
    refine GL.storeT (p := (b1, 0)) (vs := x23) h trivial rfl rfl h128 (by rw [hl27]; rfl) ?_
    intro H26 h
    refine GL.val trivial rfl (OV.assign (v := .bool true) rfl) ?_
    refine GL.nil ?_
    obtain ⟨x29, hl31, hr30, h⟩ := h
    exact GC.ret (fun _ _ hf hs => post_res2 rfl (RV.cellT (p := (b1, 0)) (cs := x29) rfl rfl (by rw [hl31]; rfl) hr30) (RV.tmp rfl) hf hs ⟨x29, true, rfl, h⟩)

def sh_strings_trimLeftASCII (C : Ctx) (p_s : Str) (p_as : Option (Nat × Nat)) (K : Str → Heap → Prop) (H : Heap) : Prop :=
  jn (α := Str) (fun x2 H3 =>
 K x2 H3)
 (fun J1 => lp (α := Str) p_s H (fun x5 J6 H7 =>
 ift (decide (((List.length x5 : Int) : Int) > 0))
 (ixs x5 0 fun c9 =>
 c_strings_asciiSet_contains C p_as (c9.toNat : Int) (fun r12 H13 =>
 ift (!r12)
 (J1 x5 H13)
 (slS x5 1 (List.length x5 : Int) fun t15 =>
 J6 t15 H13)) H7)
 (J1 x5 H7)))

theorem ad_strings_trimLeftASCII (C : Ctx) (p_s : Str) (p_as : Option (Nat × Nat)) (K : Str → Heap → Prop) (H : Heap) (h : sh_strings_trimLeftASCII C p_s p_as K H) : c_strings_trimLeftASCII C p_s p_as K H := by
  refine Spec.enter Tryd.func63 rfl Tryd.ntmps63 rfl ?_
  refine GC.sub [(0, sv p_s), (1, pv p_as)] ⟨rfl, rfl, trivial⟩ ?_
  refine GC.seq ?_
  refine GC.region ?_
  refine GL.val trivial rfl (OV.assign (v := sv []) rfl) ?_
  refine GL.nil ?_
  obtain ⟨J1, h, hR4⟩ := h
  refine GC.join (α := Str) J1 (fun x2 => [(0, sv x2)]) ?_ ?_
  · skip
    refine GC.block ?_
    refine GC.loop (α := Str) h (fun x5 => [(0, sv x5), (1, pv p_as)]) ⟨rfl, rfl, trivial⟩ ?_
    intro x5 H7 J6 h
    refine GC.seq ?_
    refine GC.seq ?_
    refine GC.region ?_
    refine GL.val trivial rfl (OV.move (v := sv x5) rfl) ?_
    refine GL.val trivial rfl (OV.lenStr (s := x5) rfl rfl) ?_
    refine GL.val trivial rfl (OV.ibin (v := .bool (decide (((List.length x5 : Int) : Int) > 0))) rfl rfl rfl) ?_
    refine GL.nil ?_
    refine GC.cond (b := decide (((List.length x5 : Int) : Int) > 0)) rfl (fun hc8 => ?_) (fun hc8 => ?_)
    · replace h := And.left h hc8
      refine GC.skip ?_
      refine GC.block ?_
      refine GC.seq ?_
      refine GC.seq ?_
      refine GC.region ?_
      refine GL.val trivial rfl (OV.move (v := pv p_as) rfl) ?_
      refine GL.val trivial rfl (OV.move (v := sv x5) rfl) ?_
      obtain ⟨c9, ha10, hb11, h⟩ := h
      refine GL.val trivial rfl (OV.indexStr (s := x5) rfl rfl rfl ha10 hb11) ?_
      refine GL.call h trivial rfl ok_strings_asciiSet_contains (vs := [pv p_as, .int .u8 (c9.toNat : Int)]) rfl ?_
      rintro _ H13 ⟨r12, rfl, h⟩
      refine GL.val trivial rfl (OV.not rfl) ?_
      refine GL.nil ?_
      refine GC.cond (b := !r12) rfl (fun hc14 => ?_) (fun hc14 => ?_)
      · replace h := And.left h hc14
        exact GC.exit_jump (fun _ _ h => h) x5 h ⟨rfl, trivial⟩
      · replace h := And.right h hc14
        refine GC.skip ?_
        refine GC.region ?_
        refine GL.val trivial rfl (OV.move (v := sv x5) rfl) ?_
        obtain ⟨h16, h17, h18, t15, h19, h⟩ := h
        refine GL.val trivial rfl (OV.sliceStr (s := x5) h16 h17 h18 h19 rfl rfl rfl rfl rfl rfl) ?_
        refine GL.val trivial rfl (OV.assign (v := sv t15) rfl) ?_
        exact GL.jump (fun _ _ h => h) t15 h ⟨rfl, rfl, trivial⟩
    · replace h := And.right h hc8
      exact GC.exit_jump (fun _ _ h => h) x5 h ⟨rfl, trivial⟩
  · intro x2 H3 h
    replace h := hR4 x2 H3 h
    refine GC.seq ?_
    refine GC.region ?_
    refine GL.val trivial rfl (OV.move (v := sv x2) rfl) ?_
    refine GL.val trivial rfl (OV.assign (v := sv x2) rfl) ?_
    refine GL.nil ?_
    exact GC.ret (fun _ _ hf hs => post_tmp1 rfl rfl hf hs ⟨x2, rfl, h⟩)

def sh_strings_trimRightASCII (C : Ctx) (p_s : Str) (p_as : Option (Nat × Nat)) (K : Str → Heap → Prop) (H : Heap) : Prop :=
  jn (α := Str) (fun x2 H3 =>
 K x2 H3)
 (fun J1 => lp (α := Str) p_s H (fun x5 J6 H7 =>
 ift (decide (((List.length x5 : Int) : Int) > 0))
 (ixs x5 (w .i64 ((List.length x5 : Int) - 1)) fun c9 =>
 c_strings_asciiSet_contains C p_as (c9.toNat : Int) (fun r12 H13 =>
 ift (!r12)
 (J1 x5 H13)
 (slS x5 0 (w .i64 ((List.length x5 : Int) - 1)) fun t15 =>
 J6 t15 H13)) H7)
 (J1 x5 H7)))

theorem ad_strings_trimRightASCII (C : Ctx) (p_s : Str) (p_as : Option (Nat × Nat)) (K : Str → Heap → Prop) (H : Heap) (h : sh_strings_trimRightASCII C p_s p_as K H) : c_strings_trimRightASCII C p_s p_as K H := by
  refine Spec.enter Tryd.func64 rfl Tryd.ntmps64 rfl ?_
  refine GC.sub [(0, sv p_s), (1, pv p_as)] ⟨rfl, rfl, trivial⟩ ?_
  refine GC.seq ?_
  refine GC.region ?_
  refine GL.val trivial rfl (OV.assign (v := sv []) rfl) ?_
  refine GL.nil ?_
  obtain ⟨J1, h, hR4⟩ := h
  refine GC.join (α := Str) J1 (fun x2 => [(0, sv x2)]) ?_ ?_
  · skip
    refine GC.block ?_
    refine GC.loop (α := Str) h (fun x5 => [(0, sv x5), (1, pv p_as)]) ⟨rfl, rfl, trivial⟩ ?_
    intro x5 H7 J6 h
    refine GC.seq ?_
    refine GC.seq ?_
    refine GC.region ?_
    refine GL.val trivial rfl (OV.move (v := sv x5) rfl) ?_
    refine GL.val trivial rfl (OV.lenStr (s := x5) rfl rfl) ?_
    refine GL.val trivial rfl (OV.ibin (v := .bool (decide (((List.length x5 : Int) : Int) > 0))) rfl rfl rfl) ?_
    refine GL.nil ?_
    refine GC.cond (b := decide (((List.length x5 : Int) : Int) > 0)) rfl (fun hc8 => ?_) (fun hc8 => ?_)
    · replace h := And.left h hc8
      refine GC.skip ?_
      refine GC.block ?_
      refine GC.seq ?_
      refine GC.seq ?_
      refine GC.region ?_
      refine GL.val trivial rfl (OV.move (v := pv p_as) rfl) ?_
      refine GL.val trivial rfl (OV.move (v := sv x5) rfl) ?_
      refine GL.val trivial rfl (OV.move (v := sv x5) rfl) ?_
      refine GL.val trivial rfl (OV.lenStr (s := x5) rfl rfl) ?_
      refine GL.val trivial rfl (OV.ibin (v := .int .i64 (w .i64 ((List.length x5 : Int) - 1))) rfl rfl rfl) ?_
      obtain ⟨c9, ha10, hb11, h⟩ := h
      refine GL.val trivial rfl (OV.indexStr (s := x5) rfl rfl rfl ha10 hb11) ?_
      refine GL.call h trivial rfl ok_strings_asciiSet_contains (vs := [pv p_as, .int .u8 (c9.toNat : Int)]) rfl ?_
      rintro _ H13 ⟨r12, rfl, h⟩
      refine GL.val trivial rfl (OV.not rfl) ?_
      refine GL.nil ?_
      refine GC.cond (b := !r12) rfl (fun hc14 => ?_) (fun hc14 => ?_)
      · replace h := And.left h hc14
        exact GC.exit_jump (fun _ _ h => h) x5 h ⟨rfl, trivial⟩
      · replace h := And.right h hc14
        refine GC.skip ?_
        refine GC.region ?_
        refine GL.val trivial rfl (OV.move (v := sv x5) rfl) ?_
        refine GL.val trivial rfl (OV.move (v := sv x5) rfl) ?_
        refine GL.val trivial rfl (OV.lenStr (s := x5) rfl rfl) ?_
        refine GL.val trivial rfl (OV.ibin (v := .int .i64 (w .i64 ((List.length x5 : Int) - 1))) rfl rfl rfl) ?_
        obtain ⟨h16, h17, h18, t15, h19, h⟩ := h
        refine GL.val trivial rfl (OV.sliceStr (s := x5) h16 h17 h18 h19 rfl rfl rfl rfl rfl rfl) ?_
        refine GL.val trivial rfl (OV.assign (v := sv t15) rfl) ?_
        exact GL.jump (fun _ _ h => h) t15 h ⟨rfl, rfl, trivial⟩
    · replace h := And.right h hc8
      exact GC.exit_jump (fun _ _ h => h) x5 h ⟨rfl, trivial⟩
  · intro x2 H3 h
    replace h := hR4 x2 H3 h
    refine GC.seq ?_
    refine GC.region ?_
    refine GL.val trivial rfl (OV.move (v := sv x2) rfl) ?_
    refine GL.val trivial rfl (OV.assign (v := sv x2) rfl) ?_
    refine GL.nil ?_
    exact GC.ret (fun _ _ hf hs => post_tmp1 rfl rfl hf hs ⟨x2, rfl, h⟩)

def sh_internal_stringslite_Index (C : Ctx) (p_s : Str) (p_substr : Str) (K : Int → Heap → Prop) (H : Heap) : Prop :=
  ift ((((List.length p_substr : Int) : Int) == 0) || (p_substr == p_s))
 (K 0 H)
 (ift (((List.length p_substr : Int) : Int) == 1)
 (ixs p_substr 0 fun c4 =>
 c_internal_stringslite_IndexByte C p_s (c4.toNat : Int) (fun r7 H8 =>
 K r7 H8) H)
 (ift (decide (((List.length p_substr : Int) : Int) ≥ (List.length p_s : Int)))
 (K (-1) H)
 (ldI H .i64 (1, 0) fun x10 =>
 ift ((decide (((List.length p_substr : Int) : Int) ≤ x10)) && (decide (((List.length p_s : Int) : Int) ≤ 64)))
 (False)
 (ixs p_substr 0 fun c14 =>
 ixs p_substr 1 fun c17 =>
 lp (α := Int × Int) (0, 0) H (fun x20 J21 H22 =>
 ift (decide ((x20.1 : Int) < (w .i64 ((w .i64 ((List.length p_s : Int) - (List.length p_substr : Int))) + 1))))
 (jn (α := Int) (fun x25 H26 =>
 ixs p_s (w .i64 (x25 + 1)) fun c41 =>
 jn (α := Bool) (fun b44 H54 =>
 ift b44
 (K x25 H54)
 (ldI H54 .i64 (1, 0) fun x56 =>
 jn (α := Bool) (fun b58 H64 =>
 ift b58
 (False)
 (ldI H64 .i64 (1, 0) fun x72 =>
 ift (((decide (((List.length p_substr : Int) : Int) > x72)) && (decide (((w .i64 (x20.2 + 1)) : Int) ≥ (w .i64 (4 + (sShr .i64 (w .i64 (x25 + 1)) 4)))))) && (decide (((w .i64 (x25 + 1)) : Int) < (w .i64 ((w .i64 ((List.length p_s : Int) - (List.length p_substr : Int))) + 1)))))
 (slS p_s (w .i64 (x25 + 1)) (List.length p_s : Int) fun t77 =>
 c_internal_bytealg_IndexRabinKarp_string C t77 p_substr (fun r83 H84 =>
 ift (decide ((r83 : Int) < 0))
 (K (-1) H84)
 (K (w .i64 ((w .i64 (x25 + 1)) + r83)) H84)) H64)
 (J21 ((w .i64 (x25 + 1)), (w .i64 (x20.2 + 1))) H64)))
 (fun J59 => ift (decide (((List.length p_substr : Int) : Int) ≤ x56))
 (c_internal_bytealg_Cutover C (w .i64 (x25 + 1)) (fun r62 H63 =>
 J59 (decide (((w .i64 (x20.2 + 1)) : Int) > r62)) H63) H54)
 (J59 false H54))))
 (fun J45 => ift (((c41.toNat : Int) : Int) == (c17.toNat : Int))
 (slS p_s x25 (w .i64 (x25 + (List.length p_substr : Int))) fun t48 =>
 J45 (t48 == p_substr) H26)
 (J45 false H26)))
 (fun J24 => ixs p_s x20.1 fun c28 =>
 ift (((c28.toNat : Int) : Int) != (c14.toNat : Int))
 (slS p_s (w .i64 (x20.1 + 1)) (w .i64 ((w .i64 ((List.length p_s : Int) - (List.length p_substr : Int))) + 1)) fun t32 =>
 c_internal_stringslite_IndexByte C t32 (c14.toNat : Int) (fun r38 H39 =>
 ift (decide ((r38 : Int) < 0))
 (K (-1) H39)
 (J24 (w .i64 (x20.1 + (w .i64 (r38 + 1)))) H39)) H22)
 (J24 x20.1 H22)))
 (K (-1) H22))))))

theorem ad_internal_stringslite_Index (C : Ctx) (p_s : Str) (p_substr : Str) (K : Int → Heap → Prop) (H : Heap) (h : sh_internal_stringslite_Index C p_s p_substr K H) : c_internal_stringslite_Index C p_s p_substr K H := by
  refine Spec.enter Tryd.func67 rfl Tryd.ntmps67 rfl ?_
  refine GC.sub [(0, sv p_s), (1, sv p_substr)] ⟨rfl, rfl, trivial⟩ ?_
  refine GC.seq ?_
  refine GC.region ?_
  refine GL.val trivial rfl (OV.assign (v := .int .i64 0) rfl) ?_
  refine GL.nil ?_
  refine GC.seq ?_
  refine GC.region ?_
  refine GL.val trivial rfl (OV.move (v := sv p_substr) rfl) ?_
  refine GL.val trivial rfl (OV.lenStr (s := p_substr) rfl rfl) ?_
  refine GL.val trivial rfl (OV.assign (v := .int .i64 (List.length p_substr : Int)) rfl) ?_
  refine GL.nil ?_
  refine GC.seq ?_
  refine GC.block ?_
  refine GC.seq ?_
  refine GC.region ?_
  refine GL.val trivial rfl (OV.move (v := .int .i64 (List.length p_substr : Int)) rfl) ?_
  refine GL.val trivial rfl (OV.ibin (v := .bool (((List.length p_substr : Int) : Int) == 0)) rfl rfl rfl) ?_
  refine GL.val trivial rfl (OV.move (v := .bool (((List.length p_substr : Int) : Int) == 0)) rfl) ?_
  refine GL.cut0 4 [(23, .bool ((((List.length p_substr : Int) : Int) == 0) || (p_substr == p_s))), (0, sv p_s), (1, sv p_substr), (5, .int .i64 (List.length p_substr : Int))] ?_ ?_
  · rcases Bool.eq_false_or_eq_true (((List.length p_substr : Int) : Int) == 0) with hc1 | hc1
    · skip
      refine GL.skip ⟨_, rfl, .inl ⟨_, rfl, hc1⟩⟩ rfl ?_
      refine GL.skip ⟨_, rfl, .inl ⟨_, rfl, hc1⟩⟩ rfl ?_
      refine GL.skip ⟨_, rfl, .inl ⟨_, rfl, hc1⟩⟩ rfl ?_
      refine GL.val trivial rfl (OV.pickT (b := ((List.length p_substr : Int) : Int) == 0) (v := .bool true) rfl hc1 rfl) ?_
      exact GL.jump0 (fun _ _ h => h) () rfl ⟨(by rw [hc1]; rfl), rfl, rfl, rfl, trivial⟩
    · skip
      refine GL.val ⟨_, _, rfl, rfl, hc1⟩ rfl (OV.move (v := sv p_substr) rfl) ?_
      refine GL.val ⟨_, _, rfl, rfl, hc1⟩ rfl (OV.move (v := sv p_s) rfl) ?_
      refine GL.val ⟨_, _, rfl, rfl, hc1⟩ rfl (OV.sbin (a := p_substr) (b := p_s) (v := .bool (p_substr == p_s)) rfl rfl rfl) ?_
      refine GL.val trivial rfl (OV.pickF (b := ((List.length p_substr : Int) : Int) == 0) (v := .bool (p_substr == p_s)) rfl hc1 rfl) ?_
      exact GL.jump0 (fun _ _ h => h) () rfl ⟨(by rw [hc1]; rfl), rfl, rfl, rfl, trivial⟩
  refine GL.val trivial rfl (OV.assign (v := .bool ((((List.length p_substr : Int) : Int) == 0) || (p_substr == p_s))) rfl) ?_
  refine GL.nil ?_
  refine GC.cond (b := (((List.length p_substr : Int) : Int) == 0) || (p_substr == p_s)) rfl (fun hc2 => ?_) (fun hc2 => ?_)
  · replace h := And.left h hc2
    refine GC.seq ?_
    refine GC.region ?_
    refine GL.val trivial rfl (OV.assign (v := .int .i64 0) rfl) ?_
    refine GL.nil ?_
    exact GC.ret (fun _ _ hf hs => post_tmp1 rfl rfl hf hs ⟨0, rfl, h⟩)
  · replace h := And.right h hc2
    refine GC.seq ?_
    refine GC.region ?_
    refine GL.val trivial rfl (OV.move (v := .int .i64 (List.length p_substr : Int)) rfl) ?_
    refine GL.val trivial rfl (OV.ibin (v := .bool (((List.length p_substr : Int) : Int) == 1)) rfl rfl rfl) ?_
    refine GL.val trivial rfl (OV.assign (v := .bool (((List.length p_substr : Int) : Int) == 1)) rfl) ?_
    refine GL.nil ?_
    refine GC.cond (b := ((List.length p_substr : Int) : Int) == 1) rfl (fun hc3 => ?_) (fun hc3 => ?_)
    · replace h := And.left h hc3
      refine GC.seq ?_
      refine GC.region ?_
      refine GL.val trivial rfl (OV.move (v := sv p_s) rfl) ?_
      refine GL.val trivial rfl (OV.move (v := sv p_substr) rfl) ?_
      obtain ⟨c4, ha5, hb6, h⟩ := h
      refine GL.val trivial rfl (OV.indexStr (s := p_substr) rfl rfl rfl ha5 hb6) ?_
      refine GL.call h trivial rfl ok_internal_stringslite_IndexByte (vs := [sv p_s, .int .u8 (c4.toNat : Int)]) rfl ?_
      rintro _ H8 ⟨r7, rfl, h⟩
      refine GL.val trivial rfl (OV.assign (v := .int .i64 r7) rfl) ?_
      refine GL.nil ?_
      exact GC.ret (fun _ _ hf hs => post_tmp1 rfl rfl hf hs ⟨r7, rfl, h⟩)
    · replace h := And.right h hc3
      refine GC.seq ?_
      refine GC.region ?_
      refine GL.val trivial rfl (OV.move (v := .int .i64 (List.length p_substr : Int)) rfl) ?_
      refine GL.val trivial rfl (OV.move (v := sv p_s) rfl) ?_
      refine GL.val trivial rfl (OV.lenStr (s := p_s) rfl rfl) ?_
      refine GL.val trivial rfl (OV.ibin (v := .bool (decide (((List.length p_substr : Int) : Int) ≥ (List.length p_s : Int)))) rfl rfl rfl) ?_
      refine GL.val trivial rfl (OV.assign (v := .bool (decide (((List.length p_substr : Int) : Int) ≥ (List.length p_s : Int)))) rfl) ?_
      refine GL.nil ?_
      refine GC.cond (b := decide (((List.length p_substr : Int) : Int) ≥ (List.length p_s : Int))) rfl (fun hc9 => ?_) (fun hc9 => ?_)
      · replace h := And.left h hc9
        refine GC.seq ?_
        refine GC.region ?_
        refine GL.val trivial rfl (OV.assign (v := .int .i64 (-1)) rfl) ?_
        refine GL.nil ?_
        exact GC.ret (fun _ _ hf hs => post_tmp1 rfl rfl hf hs ⟨(-1), rfl, h⟩)
      · replace h := And.right h hc9
        refine GC.seq ?_
        refine GC.region ?_
        refine GL.val trivial rfl (OV.move (v := .int .i64 (List.length p_substr : Int)) rfl) ?_
        obtain ⟨x10, hr11, h⟩ := h
        refine GL.val trivial rfl (OV.load (p := (1, 0)) rfl rfl hr11) ?_
        refine GL.val trivial rfl (OV.ibin (v := .bool (decide (((List.length p_substr : Int) : Int) ≤ x10))) rfl rfl rfl) ?_
        refine GL.val trivial rfl (OV.move (v := .bool (decide (((List.length p_substr : Int) : Int) ≤ x10))) rfl) ?_
        refine GL.cut0 4 [(44, .bool ((decide (((List.length p_substr : Int) : Int) ≤ x10)) && (decide (((List.length p_s : Int) : Int) ≤ 64)))), (0, sv p_s), (1, sv p_substr), (5, .int .i64 (List.length p_substr : Int))] ?_ ?_
        · rcases Bool.eq_false_or_eq_true (decide (((List.length p_substr : Int) : Int) ≤ x10)) with hc12 | hc12
          · skip
            refine GL.val ⟨_, _, rfl, rfl, hc12⟩ rfl (OV.move (v := sv p_s) rfl) ?_
            refine GL.val ⟨_, _, rfl, rfl, hc12⟩ rfl (OV.lenStr (s := p_s) rfl rfl) ?_
            refine GL.val ⟨_, _, rfl, rfl, hc12⟩ rfl (OV.ibin (v := .bool (decide (((List.length p_s : Int) : Int) ≤ 64))) rfl rfl rfl) ?_
            refine GL.val trivial rfl (OV.pickT (b := decide (((List.length p_substr : Int) : Int) ≤ x10)) (v := .bool (decide (((List.length p_s : Int) : Int) ≤ 64))) rfl hc12 rfl) ?_
            exact GL.jump0 (fun _ _ h => h) () rfl ⟨(by rw [hc12]; rfl), rfl, rfl, rfl, trivial⟩
          · skip
            refine GL.skip ⟨_, rfl, .inl ⟨_, rfl, hc12⟩⟩ rfl ?_
            refine GL.skip ⟨_, rfl, .inl ⟨_, rfl, hc12⟩⟩ rfl ?_
            refine GL.skip ⟨_, rfl, .inl ⟨_, rfl, hc12⟩⟩ rfl ?_
            refine GL.val trivial rfl (OV.pickF (b := decide (((List.length p_substr : Int) : Int) ≤ x10)) (v := .bool false) rfl hc12 rfl) ?_
            exact GL.jump0 (fun _ _ h => h) () rfl ⟨(by rw [hc12]; rfl), rfl, rfl, rfl, trivial⟩
        refine GL.val trivial rfl (OV.assign (v := .bool ((decide (((List.length p_substr : Int) : Int) ≤ x10)) && (decide (((List.length p_s : Int) : Int) ≤ 64)))) rfl) ?_
        refine GL.nil ?_
        refine GC.cond (b := (decide (((List.length p_substr : Int) : Int) ≤ x10)) && (decide (((List.length p_s : Int) : Int) ≤ 64))) rfl (fun hc13 => ?_) (fun hc13 => ?_)
        · replace h := And.left h hc13
          refine GC.seq ?_
          exact GC.never h
        · replace h := And.right h hc13
          refine GC.skip_to (fun _ _ h => h) ?_
          refine GC.seq ?_
          refine GC.region ?_
          refine GL.val trivial rfl (OV.move (v := sv p_substr) rfl) ?_
          obtain ⟨c14, ha15, hb16, h⟩ := h
          refine GL.val trivial rfl (OV.indexStr (s := p_substr) rfl rfl rfl ha15 hb16) ?_
          refine GL.val trivial rfl (OV.assign (v := .int .u8 (c14.toNat : Int)) rfl) ?_
          refine GL.nil ?_
          refine GC.seq ?_
          refine GC.region ?_
          refine GL.val trivial rfl (OV.move (v := sv p_substr) rfl) ?_
          obtain ⟨c17, ha18, hb19, h⟩ := h
          refine GL.val trivial rfl (OV.indexStr (s := p_substr) rfl rfl rfl ha18 hb19) ?_
          refine GL.val trivial rfl (OV.assign (v := .int .u8 (c17.toNat : Int)) rfl) ?_
          refine GL.nil ?_
          refine GC.seq ?_
          refine GC.region ?_
          refine GL.val trivial rfl (OV.assign (v := .int .i64 0) rfl) ?_
          refine GL.nil ?_
          refine GC.seq ?_
          refine GC.region ?_
          refine GL.val trivial rfl (OV.move (v := sv p_s) rfl) ?_
          refine GL.val trivial rfl (OV.lenStr (s := p_s) rfl rfl) ?_
          refine GL.val trivial rfl (OV.move (v := .int .i64 (List.length p_substr : Int)) rfl) ?_
          refine GL.val trivial rfl (OV.ibin (v := .int .i64 (w .i64 ((List.length p_s : Int) - (List.length p_substr : Int)))) rfl rfl rfl) ?_
          refine GL.val trivial rfl (OV.ibin (v := .int .i64 (w .i64 ((w .i64 ((List.length p_s : Int) - (List.length p_substr : Int))) + 1))) rfl rfl rfl) ?_
          refine GL.val trivial rfl (OV.assign (v := .int .i64 (w .i64 ((w .i64 ((List.length p_s : Int) - (List.length p_substr : Int))) + 1))) rfl) ?_
          refine GL.nil ?_
          refine GC.seq ?_
          refine GC.region ?_
          refine GL.val trivial rfl (OV.assign (v := .int .i64 0) rfl) ?_
          refine GL.nil ?_
          refine GC.seq ?_
          refine GC.block ?_
          refine GC.loop (α := Int × Int) h (fun x20 => [(8, .int .i64 x20.1), (10, .int .i64 x20.2), (0, sv p_s), (1, sv p_substr), (5, .int .i64 (List.length p_substr : Int)), (6, .int .u8 (c14.toNat : Int)), (7, .int .u8 (c17.toNat : Int)), (9, .int .i64 (w .i64 ((w .i64 ((List.length p_s : Int) - (List.length p_substr : Int))) + 1)))]) ⟨rfl, rfl, rfl, rfl, rfl, rfl, rfl, rfl, trivial⟩ ?_
          intro x20 H22 J21 h
          refine GC.seq ?_
          refine GC.seq ?_
          refine GC.region ?_
          refine GL.val trivial rfl (OV.move (v := .int .i64 x20.1) rfl) ?_
          refine GL.val trivial rfl (OV.move (v := .int .i64 (w .i64 ((w .i64 ((List.length p_s : Int) - (List.length p_substr : Int))) + 1))) rfl) ?_
          refine GL.val trivial rfl (OV.ibin (v := .bool (decide ((x20.1 : Int) < (w .i64 ((w .i64 ((List.length p_s : Int) - (List.length p_substr : Int))) + 1))))) rfl rfl rfl) ?_
          refine GL.nil ?_
          refine GC.cond (b := decide ((x20.1 : Int) < (w .i64 ((w .i64 ((List.length p_s : Int) - (List.length p_substr : Int))) + 1)))) rfl (fun hc23 => ?_) (fun hc23 => ?_)
          · replace h := And.left h hc23
            refine GC.skip ?_
            refine GC.block ?_
            obtain ⟨J24, h, hR27⟩ := h
            refine GC.join (α := Int) J24 (fun x25 => [(8, .int .i64 x25), (0, sv p_s), (1, sv p_substr), (5, .int .i64 (List.length p_substr : Int)), (6, .int .u8 (c14.toNat : Int)), (7, .int .u8 (c17.toNat : Int)), (9, .int .i64 (w .i64 ((w .i64 ((List.length p_s : Int) - (List.length p_substr : Int))) + 1))), (10, .int .i64 x20.2)]) ?_ ?_
            · skip
              refine GC.seq ?_
              refine GC.region ?_
              refine GL.val trivial rfl (OV.move (v := sv p_s) rfl) ?_
              refine GL.val trivial rfl (OV.move (v := .int .i64 x20.1) rfl) ?_
              obtain ⟨c28, ha29, hb30, h⟩ := h
              refine GL.val trivial rfl (OV.indexStr (s := p_s) rfl rfl rfl ha29 hb30) ?_
              refine GL.val trivial rfl (OV.move (v := .int .u8 (c14.toNat : Int)) rfl) ?_
              refine GL.val trivial rfl (OV.ibin (v := .bool (((c28.toNat : Int) : Int) != (c14.toNat : Int))) rfl rfl rfl) ?_
              refine GL.nil ?_
              refine GC.cond (b := ((c28.toNat : Int) : Int) != (c14.toNat : Int)) rfl (fun hc31 => ?_) (fun hc31 => ?_)
              · replace h := And.left h hc31
                refine GC.seq ?_
                refine GC.region ?_
                refine GL.val trivial rfl (OV.move (v := sv p_s) rfl) ?_
                refine GL.val trivial rfl (OV.move (v := .int .i64 x20.1) rfl) ?_
                refine GL.val trivial rfl (OV.ibin (v := .int .i64 (w .i64 (x20.1 + 1))) rfl rfl rfl) ?_
                refine GL.val trivial rfl (OV.move (v := .int .i64 (w .i64 ((w .i64 ((List.length p_s : Int) - (List.length p_substr : Int))) + 1))) rfl) ?_
                obtain ⟨h33, h34, h35, t32, h36, h⟩ := h
                refine GL.val trivial rfl (OV.sliceStr (s := p_s) h33 h34 h35 h36 rfl rfl rfl rfl rfl rfl) ?_
                refine GL.val trivial rfl (OV.move (v := .int .u8 (c14.toNat : Int)) rfl) ?_
                refine GL.call h trivial rfl ok_internal_stringslite_IndexByte (vs := [sv t32, .int .u8 (c14.toNat : Int)]) rfl ?_
                rintro _ H39 ⟨r38, rfl, h⟩
                refine GL.val trivial rfl (OV.assign (v := .int .i64 r38) rfl) ?_
                refine GL.nil ?_
                refine GC.seq ?_
                refine GC.seq ?_
                refine GC.region ?_
                refine GL.val trivial rfl (OV.move (v := .int .i64 r38) rfl) ?_
                refine GL.val trivial rfl (OV.ibin (v := .bool (decide ((r38 : Int) < 0))) rfl rfl rfl) ?_
                refine GL.nil ?_
                refine GC.cond (b := decide ((r38 : Int) < 0)) rfl (fun hc40 => ?_) (fun hc40 => ?_)
                · replace h := And.left h hc40
                  refine GC.seq ?_
                  refine GC.region ?_
                  refine GL.val trivial rfl (OV.assign (v := .int .i64 (-1)) rfl) ?_
                  refine GL.nil ?_
                  exact GC.ret (fun _ _ hf hs => post_tmp1 rfl rfl hf hs ⟨(-1), rfl, h⟩)
                · replace h := And.right h hc40
                  refine GC.skip ?_
                  refine GC.region ?_
                  refine GL.val trivial rfl (OV.move (v := .int .i64 x20.1) rfl) ?_
                  refine GL.val trivial rfl (OV.move (v := .int .i64 r38) rfl) ?_
                  refine GL.val trivial rfl (OV.ibin (v := .int .i64 (w .i64 (r38 + 1))) rfl rfl rfl) ?_
                  refine GL.val trivial rfl (OV.ibin (v := .int .i64 (w .i64 (x20.1 + (w .i64 (r38 + 1))))) rfl rfl rfl) ?_
                  refine GL.val trivial rfl (OV.assign (v := .int .i64 (w .i64 (x20.1 + (w .i64 (r38 + 1))))) rfl) ?_
                  exact GL.jump (fun _ _ h => h) (w .i64 (x20.1 + (w .i64 (r38 + 1)))) h ⟨rfl, rfl, rfl, rfl, rfl, rfl, rfl, rfl, trivial⟩
              · replace h := And.right h hc31
                exact GC.jump (fun _ _ h => h) x20.1 h ⟨rfl, rfl, rfl, rfl, rfl, rfl, rfl, rfl, trivial⟩
            · intro x25 H26 h
              replace h := hR27 x25 H26 h
              refine GC.seq ?_
              refine GC.seq ?_
              refine GC.region ?_
              refine GL.val trivial rfl (OV.move (v := sv p_s) rfl) ?_
              refine GL.val trivial rfl (OV.move (v := .int .i64 x25) rfl) ?_
              refine GL.val trivial rfl (OV.ibin (v := .int .i64 (w .i64 (x25 + 1))) rfl rfl rfl) ?_
              obtain ⟨c41, ha42, hb43, h⟩ := h
              refine GL.val trivial rfl (OV.indexStr (s := p_s) rfl rfl rfl ha42 hb43) ?_
              refine GL.val trivial rfl (OV.move (v := .int .u8 (c17.toNat : Int)) rfl) ?_
              refine GL.val trivial rfl (OV.ibin (v := .bool (((c41.toNat : Int) : Int) == (c17.toNat : Int))) rfl rfl rfl) ?_
              refine GL.val trivial rfl (OV.move (v := .bool (((c41.toNat : Int) : Int) == (c17.toNat : Int))) rfl) ?_
              obtain ⟨J45, h, hR46⟩ := h
              refine GL.cut (α := Bool) 9 J45 (fun b44 => [(93, .bool b44), (0, sv p_s), (1, sv p_substr), (5, .int .i64 (List.length p_substr : Int)), (6, .int .u8 (c14.toNat : Int)), (7, .int .u8 (c17.toNat : Int)), (8, .int .i64 x25), (9, .int .i64 (w .i64 ((w .i64 ((List.length p_s : Int) - (List.length p_substr : Int))) + 1))), (10, .int .i64 x20.2)]) ?_ ?_
              · rcases Bool.eq_false_or_eq_true (((c41.toNat : Int) : Int) == (c17.toNat : Int)) with hc47 | hc47
                · skip
                  replace h := And.left h hc47
                  refine GL.val ⟨_, _, rfl, rfl, hc47⟩ rfl (OV.move (v := sv p_s) rfl) ?_
                  refine GL.val ⟨_, _, rfl, rfl, hc47⟩ rfl (OV.move (v := .int .i64 x25) rfl) ?_
                  refine GL.val ⟨_, _, rfl, rfl, hc47⟩ rfl (OV.move (v := .int .i64 x25) rfl) ?_
                  refine GL.val ⟨_, _, rfl, rfl, hc47⟩ rfl (OV.move (v := .int .i64 (List.length p_substr : Int)) rfl) ?_
                  refine GL.val ⟨_, _, rfl, rfl, hc47⟩ rfl (OV.ibin (v := .int .i64 (w .i64 (x25 + (List.length p_substr : Int)))) rfl rfl rfl) ?_
                  obtain ⟨h49, h50, h51, t48, h52, h⟩ := h
                  refine GL.val ⟨_, _, rfl, rfl, hc47⟩ rfl (OV.sliceStr (s := p_s) h49 h50 h51 h52 rfl rfl rfl rfl rfl rfl) ?_
                  refine GL.val ⟨_, _, rfl, rfl, hc47⟩ rfl (OV.move (v := sv p_substr) rfl) ?_
                  refine GL.val ⟨_, _, rfl, rfl, hc47⟩ rfl (OV.sbin (a := t48) (b := p_substr) (v := .bool (t48 == p_substr)) rfl rfl rfl) ?_
                  refine GL.val trivial rfl (OV.pickT (b := ((c41.toNat : Int) : Int) == (c17.toNat : Int)) (v := .bool (t48 == p_substr)) rfl hc47 rfl) ?_
                  exact GL.jump (fun _ _ h => h) (t48 == p_substr) h ⟨rfl, rfl, rfl, rfl, rfl, rfl, rfl, rfl, rfl, trivial⟩
                · skip
                  replace h := And.right h hc47
                  refine GL.skip ⟨_, rfl, .inl ⟨_, rfl, hc47⟩⟩ rfl ?_
                  refine GL.skip ⟨_, rfl, .inl ⟨_, rfl, hc47⟩⟩ rfl ?_
                  refine GL.skip ⟨_, rfl, .inl ⟨_, rfl, hc47⟩⟩ rfl ?_
                  refine GL.skip ⟨_, rfl, .inl ⟨_, rfl, hc47⟩⟩ rfl ?_
                  refine GL.skip ⟨_, rfl, .inl ⟨_, rfl, hc47⟩⟩ rfl ?_
                  refine GL.skip ⟨_, rfl, .inl ⟨_, rfl, hc47⟩⟩ rfl ?_
                  refine GL.skip ⟨_, rfl, .inl ⟨_, rfl, hc47⟩⟩ rfl ?_
                  refine GL.skip ⟨_, rfl, .inl ⟨_, rfl, hc47⟩⟩ rfl ?_
                  refine GL.val trivial rfl (OV.pickF (b := ((c41.toNat : Int) : Int) == (c17.toNat : Int)) (v := .bool false) rfl hc47 rfl) ?_
                  exact GL.jump (fun _ _ h => h) false h ⟨rfl, rfl, rfl, rfl, rfl, rfl, rfl, rfl, rfl, trivial⟩
              intro b44 H54 h
              replace h := hR46 b44 H54 h
              refine GL.nil ?_
              refine GC.cond (b := b44) rfl (fun hc55 => ?_) (fun hc55 => ?_)
              · replace h := And.left h hc55
                refine GC.seq ?_
                refine GC.region ?_
                refine GL.val trivial rfl (OV.move (v := .int .i64 x25) rfl) ?_
                refine GL.val trivial rfl (OV.assign (v := .int .i64 x25) rfl) ?_
                refine GL.nil ?_
                exact GC.ret (fun _ _ hf hs => post_tmp1 rfl rfl hf hs ⟨x25, rfl, h⟩)
              · replace h := And.right h hc55
                refine GC.skip ?_
                refine GC.seq ?_
                refine GC.region ?_
                refine GL.val trivial rfl (OV.move (v := .int .i64 x25) rfl) ?_
                refine GL.val trivial rfl (OV.ibin (v := .int .i64 (w .i64 (x25 + 1))) rfl rfl rfl) ?_
                refine GL.val trivial rfl (OV.assign (v := .int .i64 (w .i64 (x25 + 1))) rfl) ?_
                refine GL.nil ?_
                refine GC.seq ?_
                refine GC.region ?_
                refine GL.val trivial rfl (OV.move (v := .int .i64 x20.2) rfl) ?_
                refine GL.val trivial rfl (OV.ibin (v := .int .i64 (w .i64 (x20.2 + 1))) rfl rfl rfl) ?_
                refine GL.val trivial rfl (OV.assign (v := .int .i64 (w .i64 (x20.2 + 1))) rfl) ?_
                refine GL.nil ?_
                refine GC.seq ?_
                refine GC.region ?_
                refine GL.val trivial rfl (OV.move (v := .int .i64 (List.length p_substr : Int)) rfl) ?_
                obtain ⟨x56, hr57, h⟩ := h
                refine GL.val trivial rfl (OV.load (p := (1, 0)) rfl rfl hr57) ?_
                refine GL.val trivial rfl (OV.ibin (v := .bool (decide (((List.length p_substr : Int) : Int) ≤ x56))) rfl rfl rfl) ?_
                refine GL.val trivial rfl (OV.move (v := .bool (decide (((List.length p_substr : Int) : Int) ≤ x56))) rfl) ?_
                obtain ⟨J59, h, hR60⟩ := h
                refine GL.cut (α := Bool) 5 J59 (fun b58 => [(107, .bool b58), (0, sv p_s), (1, sv p_substr), (5, .int .i64 (List.length p_substr : Int)), (6, .int .u8 (c14.toNat : Int)), (7, .int .u8 (c17.toNat : Int)), (8, .int .i64 (w .i64 (x25 + 1))), (9, .int .i64 (w .i64 ((w .i64 ((List.length p_s : Int) - (List.length p_substr : Int))) + 1))), (10, .int .i64 (w .i64 (x20.2 + 1)))]) ?_ ?_
                · rcases Bool.eq_false_or_eq_true (decide (((List.length p_substr : Int) : Int) ≤ x56)) with hc61 | hc61
                  · skip
                    replace h := And.left h hc61
                    refine GL.val ⟨_, _, rfl, rfl, hc61⟩ rfl (OV.move (v := .int .i64 (w .i64 (x20.2 + 1))) rfl) ?_
                    refine GL.val ⟨_, _, rfl, rfl, hc61⟩ rfl (OV.move (v := .int .i64 (w .i64 (x25 + 1))) rfl) ?_
                    refine GL.call h ⟨_, _, rfl, rfl, hc61⟩ rfl ok_internal_bytealg_Cutover (vs := [.int .i64 (w .i64 (x25 + 1))]) rfl ?_
                    rintro _ H63 ⟨r62, rfl, h⟩
                    refine GL.val ⟨_, _, rfl, rfl, hc61⟩ rfl (OV.ibin (v := .bool (decide (((w .i64 (x20.2 + 1)) : Int) > r62))) rfl rfl rfl) ?_
                    refine GL.val trivial rfl (OV.pickT (b := decide (((List.length p_substr : Int) : Int) ≤ x56)) (v := .bool (decide (((w .i64 (x20.2 + 1)) : Int) > r62))) rfl hc61 rfl) ?_
                    exact GL.jump (fun _ _ h => h) (decide (((w .i64 (x20.2 + 1)) : Int) > r62)) h ⟨rfl, rfl, rfl, rfl, rfl, rfl, rfl, rfl, rfl, trivial⟩
                  · skip
                    replace h := And.right h hc61
                    refine GL.skip ⟨_, rfl, .inl ⟨_, rfl, hc61⟩⟩ rfl ?_
                    refine GL.skip ⟨_, rfl, .inl ⟨_, rfl, hc61⟩⟩ rfl ?_
                    refine GL.skip ⟨_, rfl, .inl ⟨_, rfl, hc61⟩⟩ rfl ?_
                    refine GL.skip ⟨_, rfl, .inl ⟨_, rfl, hc61⟩⟩ rfl ?_
                    refine GL.val trivial rfl (OV.pickF (b := decide (((List.length p_substr : Int) : Int) ≤ x56)) (v := .bool false) rfl hc61 rfl) ?_
                    exact GL.jump (fun _ _ h => h) false h ⟨rfl, rfl, rfl, rfl, rfl, rfl, rfl, rfl, rfl, trivial⟩
                intro b58 H64 h
                replace h := hR60 b58 H64 h
                refine GL.nil ?_
                refine GC.cond (b := b58) rfl (fun hc65 => ?_) (fun hc65 => ?_)
                · replace h := And.left h hc65
                  refine GC.seq ?_
                  exact GC.never h
                · replace h := And.right h hc65
                  refine GC.seq ?_
                  refine GC.region ?_
                  refine GL.val trivial rfl (OV.move (v := .int .i64 (List.length p_substr : Int)) rfl) ?_
                  obtain ⟨x72, hr73, h⟩ := h
                  refine GL.val trivial rfl (OV.load (p := (1, 0)) rfl rfl hr73) ?_
                  refine GL.val trivial rfl (OV.ibin (v := .bool (decide (((List.length p_substr : Int) : Int) > x72))) rfl rfl rfl) ?_
                  refine GL.val trivial rfl (OV.move (v := .bool (decide (((List.length p_substr : Int) : Int) > x72))) rfl) ?_
                  refine GL.cut0 6 [(127, .bool ((decide (((List.length p_substr : Int) : Int) > x72)) && (decide (((w .i64 (x20.2 + 1)) : Int) ≥ (w .i64 (4 + (sShr .i64 (w .i64 (x25 + 1)) 4))))))), (0, sv p_s), (1, sv p_substr), (5, .int .i64 (List.length p_substr : Int)), (6, .int .u8 (c14.toNat : Int)), (7, .int .u8 (c17.toNat : Int)), (8, .int .i64 (w .i64 (x25 + 1))), (9, .int .i64 (w .i64 ((w .i64 ((List.length p_s : Int) - (List.length p_substr : Int))) + 1))), (10, .int .i64 (w .i64 (x20.2 + 1)))] ?_ ?_
                  · rcases Bool.eq_false_or_eq_true (decide (((List.length p_substr : Int) : Int) > x72)) with hc74 | hc74
                    · skip
                      refine GL.val ⟨_, _, rfl, rfl, hc74⟩ rfl (OV.move (v := .int .i64 (w .i64 (x20.2 + 1))) rfl) ?_
                      refine GL.val ⟨_, _, rfl, rfl, hc74⟩ rfl (OV.move (v := .int .i64 (w .i64 (x25 + 1))) rfl) ?_
                      refine GL.val ⟨_, _, rfl, rfl, hc74⟩ rfl (OV.shr rfl rfl (by decide)) ?_
                      refine GL.val ⟨_, _, rfl, rfl, hc74⟩ rfl (OV.ibin (v := .int .i64 (w .i64 (4 + (sShr .i64 (w .i64 (x25 + 1)) 4)))) rfl rfl rfl) ?_
                      refine GL.val ⟨_, _, rfl, rfl, hc74⟩ rfl (OV.ibin (v := .bool (decide (((w .i64 (x20.2 + 1)) : Int) ≥ (w .i64 (4 + (sShr .i64 (w .i64 (x25 + 1)) 4)))))) rfl rfl rfl) ?_
                      refine GL.val trivial rfl (OV.pickT (b := decide (((List.length p_substr : Int) : Int) > x72)) (v := .bool (decide (((w .i64 (x20.2 + 1)) : Int) ≥ (w .i64 (4 + (sShr .i64 (w .i64 (x25 + 1)) 4)))))) rfl hc74 rfl) ?_
                      exact GL.jump0 (fun _ _ h => h) () rfl ⟨(by rw [hc74]; rfl), rfl, rfl, rfl, rfl, rfl, rfl, rfl, rfl, trivial⟩
                    · skip
                      refine GL.skip ⟨_, rfl, .inl ⟨_, rfl, hc74⟩⟩ rfl ?_
                      refine GL.skip ⟨_, rfl, .inl ⟨_, rfl, hc74⟩⟩ rfl ?_
                      refine GL.skip ⟨_, rfl, .inl ⟨_, rfl, hc74⟩⟩ rfl ?_
                      refine GL.skip ⟨_, rfl, .inl ⟨_, rfl, hc74⟩⟩ rfl ?_
                      refine GL.skip ⟨_, rfl, .inl ⟨_, rfl, hc74⟩⟩ rfl ?_
                      refine GL.val trivial rfl (OV.pickF (b := decide (((List.length p_substr : Int) : Int) > x72)) (v := .bool false) rfl hc74 rfl) ?_
                      exact GL.jump0 (fun _ _ h => h) () rfl ⟨(by rw [hc74]; rfl), rfl, rfl, rfl, rfl, rfl, rfl, rfl, rfl, trivial⟩
                  refine GL.val trivial rfl (OV.move (v := .bool ((decide (((List.length p_substr : Int) : Int) > x72)) && (decide (((w .i64 (x20.2 + 1)) : Int) ≥ (w .i64 (4 + (sShr .i64 (w .i64 (x25 + 1)) 4))))))) rfl) ?_
                  refine GL.cut0 4 [(132, .bool (((decide (((List.length p_substr : Int) : Int) > x72)) && (decide (((w .i64 (x20.2 + 1)) : Int) ≥ (w .i64 (4 + (sShr .i64 (w .i64 (x25 + 1)) 4)))))) && (decide (((w .i64 (x25 + 1)) : Int) < (w .i64 ((w .i64 ((List.length p_s : Int) - (List.length p_substr : Int))) + 1)))))), (0, sv p_s), (1, sv p_substr), (5, .int .i64 (List.length p_substr : Int)), (6, .int .u8 (c14.toNat : Int)), (7, .int .u8 (c17.toNat : Int)), (8, .int .i64 (w .i64 (x25 + 1))), (9, .int .i64 (w .i64 ((w .i64 ((List.length p_s : Int) - (List.length p_substr : Int))) + 1))), (10, .int .i64 (w .i64 (x20.2 + 1)))] ?_ ?_
                  · rcases Bool.eq_false_or_eq_true ((decide (((List.length p_substr : Int) : Int) > x72)) && (decide (((w .i64 (x20.2 + 1)) : Int) ≥ (w .i64 (4 + (sShr .i64 (w .i64 (x25 + 1)) 4)))))) with hc75 | hc75
                    · skip
                      refine GL.val ⟨_, _, rfl, rfl, hc75⟩ rfl (OV.move (v := .int .i64 (w .i64 (x25 + 1))) rfl) ?_
                      refine GL.val ⟨_, _, rfl, rfl, hc75⟩ rfl (OV.move (v := .int .i64 (w .i64 ((w .i64 ((List.length p_s : Int) - (List.length p_substr : Int))) + 1))) rfl) ?_
                      refine GL.val ⟨_, _, rfl, rfl, hc75⟩ rfl (OV.ibin (v := .bool (decide (((w .i64 (x25 + 1)) : Int) < (w .i64 ((w .i64 ((List.length p_s : Int) - (List.length p_substr : Int))) + 1))))) rfl rfl rfl) ?_
                      refine GL.val trivial rfl (OV.pickT (b := (decide (((List.length p_substr : Int) : Int) > x72)) && (decide (((w .i64 (x20.2 + 1)) : Int) ≥ (w .i64 (4 + (sShr .i64 (w .i64 (x25 + 1)) 4)))))) (v := .bool (decide (((w .i64 (x25 + 1)) : Int) < (w .i64 ((w .i64 ((List.length p_s : Int) - (List.length p_substr : Int))) + 1))))) rfl hc75 rfl) ?_
                      exact GL.jump0 (fun _ _ h => h) () rfl ⟨(by rw [hc75]; rfl), rfl, rfl, rfl, rfl, rfl, rfl, rfl, rfl, trivial⟩
                    · skip
                      refine GL.skip ⟨_, rfl, .inl ⟨_, rfl, hc75⟩⟩ rfl ?_
                      refine GL.skip ⟨_, rfl, .inl ⟨_, rfl, hc75⟩⟩ rfl ?_
                      refine GL.skip ⟨_, rfl, .inl ⟨_, rfl, hc75⟩⟩ rfl ?_
                      refine GL.val trivial rfl (OV.pickF (b := (decide (((List.length p_substr : Int) : Int) > x72)) && (decide (((w .i64 (x20.2 + 1)) : Int) ≥ (w .i64 (4 + (sShr .i64 (w .i64 (x25 + 1)) 4)))))) (v := .bool false) rfl hc75 rfl) ?_
                      exact GL.jump0 (fun _ _ h => h) () rfl ⟨(by rw [hc75]; rfl), rfl, rfl, rfl, rfl, rfl, rfl, rfl, rfl, trivial⟩
                  refine GL.nil ?_
                  refine GC.cond (b := ((decide (((List.length p_substr : Int) : Int) > x72)) && (decide (((w .i64 (x20.2 + 1)) : Int) ≥ (w .i64 (4 + (sShr .i64 (w .i64 (x25 + 1)) 4)))))) && (decide (((w .i64 (x25 + 1)) : Int) < (w .i64 ((w .i64 ((List.length p_s : Int) - (List.length p_substr : Int))) + 1))))) rfl (fun hc76 => ?_) (fun hc76 => ?_)
                  · replace h := And.left h hc76
                    refine GC.seq ?_
                    refine GC.region ?_
                    refine GL.val trivial rfl (OV.move (v := sv p_s) rfl) ?_
                    refine GL.val trivial rfl (OV.move (v := .int .i64 (w .i64 (x25 + 1))) rfl) ?_
                    obtain ⟨h78, h79, h80, t77, h81, h⟩ := h
                    refine GL.val trivial rfl (OV.sliceStr (s := p_s) h78 h79 h80 h81 rfl rfl rfl rfl rfl rfl) ?_
                    refine GL.val trivial rfl (OV.move (v := sv p_substr) rfl) ?_
                    refine GL.call h trivial rfl ok_internal_bytealg_IndexRabinKarp_string (vs := [sv t77, sv p_substr]) rfl ?_
                    rintro _ H84 ⟨r83, rfl, h⟩
                    refine GL.val trivial rfl (OV.assign (v := .int .i64 r83) rfl) ?_
                    refine GL.nil ?_
                    refine GC.seq ?_
                    refine GC.seq ?_
                    refine GC.region ?_
                    refine GL.val trivial rfl (OV.move (v := .int .i64 r83) rfl) ?_
                    refine GL.val trivial rfl (OV.ibin (v := .bool (decide ((r83 : Int) < 0))) rfl rfl rfl) ?_
                    refine GL.nil ?_
                    refine GC.cond (b := decide ((r83 : Int) < 0)) rfl (fun hc85 => ?_) (fun hc85 => ?_)
                    · replace h := And.left h hc85
                      refine GC.seq ?_
                      refine GC.region ?_
                      refine GL.val trivial rfl (OV.assign (v := .int .i64 (-1)) rfl) ?_
                      refine GL.nil ?_
                      exact GC.ret (fun _ _ hf hs => post_tmp1 rfl rfl hf hs ⟨(-1), rfl, h⟩)
                    · replace h := And.right h hc85
                      refine GC.skip ?_
                      refine GC.seq ?_
                      refine GC.region ?_
                      refine GL.val trivial rfl (OV.move (v := .int .i64 (w .i64 (x25 + 1))) rfl) ?_
                      refine GL.val trivial rfl (OV.move (v := .int .i64 r83) rfl) ?_
                      refine GL.val trivial rfl (OV.ibin (v := .int .i64 (w .i64 ((w .i64 (x25 + 1)) + r83))) rfl rfl rfl) ?_
                      refine GL.val trivial rfl (OV.assign (v := .int .i64 (w .i64 ((w .i64 (x25 + 1)) + r83))) rfl) ?_
                      refine GL.nil ?_
                      exact GC.ret (fun _ _ hf hs => post_tmp1 rfl rfl hf hs ⟨(w .i64 ((w .i64 (x25 + 1)) + r83)), rfl, h⟩)
                  · replace h := And.right h hc76
                    exact GC.jump (fun _ _ h => h) ((w .i64 (x25 + 1)), (w .i64 (x20.2 + 1))) h ⟨rfl, rfl, rfl, rfl, rfl, rfl, rfl, rfl, trivial⟩
          · replace h := And.right h hc23
            refine GC.exit_to (fun _ _ h => h) ?_
            refine GC.seq ?_
            refine GC.region ?_
            refine GL.val trivial rfl (OV.assign (v := .int .i64 (-1)) rfl) ?_
            refine GL.nil ?_
            exact GC.ret (fun _ _ hf hs => post_tmp1 rfl rfl hf hs ⟨(-1), rfl, h⟩)

def sh_ref02_Name (C : Ctx) (p_s : Str) (K : Bool → Heap → Prop) (H : Heap) : Prop :=
  jn (α := Bool) (fun b2 H11 =>
 ift b2
 (K false H11)
 (lp (α := Int) 0 H11 (fun x13 J14 H15 =>
 ift (decide ((x13 : Int) < (List.length p_s : Int)))
 (ixs p_s x13 fun c17 =>
 c_ref02_letter C (c17.toNat : Int) (fun r20 H21 =>
 ift ((((!r20) && (!((decide (((c17.toNat : Int) : Int) ≥ 65)) && (decide (((c17.toNat : Int) : Int) ≤ 90))))) && (!((decide (((c17.toNat : Int) : Int) ≥ 48)) && (decide (((c17.toNat : Int) : Int) ≤ 57))))) && (((c17.toNat : Int) : Int) != 95))
 (K false H21)
 (J14 (w .i64 (x13 + 1)) H21)) H15)
 (K true H15))))
 (fun J3 => ift ((p_s == ([] : Str)) || (decide (((List.length p_s : Int) : Int) > 32)))
 (J3 true H)
 (ixs p_s 0 fun c6 =>
 c_ref02_letter C (c6.toNat : Int) (fun r9 H10 =>
 J3 (!r9) H10) H))

theorem ad_ref02_Name (C : Ctx) (p_s : Str) (K : Bool → Heap → Prop) (H : Heap) (h : sh_ref02_Name C p_s K H) : c_ref02_Name C p_s K H := by
  refine Spec.enter Tryd.func68 rfl Tryd.ntmps68 rfl ?_
  refine GC.sub [(0, sv p_s)] ⟨rfl, trivial⟩ ?_
  refine GC.seq ?_
  refine GC.region ?_
  refine GL.val trivial rfl (OV.assign (v := .bool false) rfl) ?_
  refine GL.nil ?_
  refine GC.seq ?_
  refine GC.seq ?_
  refine GC.region ?_
  refine GL.val trivial rfl (OV.move (v := sv p_s) rfl) ?_
  refine GL.val trivial rfl (OV.sbin (a := p_s) (b := ([] : Str)) (v := .bool (p_s == ([] : Str))) rfl rfl rfl) ?_
  refine GL.val trivial rfl (OV.move (v := .bool (p_s == ([] : Str))) rfl) ?_
  refine GL.cut0 4 [(11, .bool ((p_s == ([] : Str)) || (decide (((List.length p_s : Int) : Int) > 32)))), (0, sv p_s)] ?_ ?_
  · rcases Bool.eq_false_or_eq_true (p_s == ([] : Str)) with hc1 | hc1
    · skip
      refine GL.skip ⟨_, rfl, .inl ⟨_, rfl, hc1⟩⟩ rfl ?_
      refine GL.skip ⟨_, rfl, .inl ⟨_, rfl, hc1⟩⟩ rfl ?_
      refine GL.skip ⟨_, rfl, .inl ⟨_, rfl, hc1⟩⟩ rfl ?_
      refine GL.val trivial rfl (OV.pickT (b := p_s == ([] : Str)) (v := .bool true) rfl hc1 rfl) ?_
      exact GL.jump0 (fun _ _ h => h) () rfl ⟨(by rw [hc1]; rfl), rfl, trivial⟩
    · skip
      refine GL.val ⟨_, _, rfl, rfl, hc1⟩ rfl (OV.move (v := sv p_s) rfl) ?_
      refine GL.val ⟨_, _, rfl, rfl, hc1⟩ rfl (OV.lenStr (s := p_s) rfl rfl) ?_
      refine GL.val ⟨_, _, rfl, rfl, hc1⟩ rfl (OV.ibin (v := .bool (decide (((List.length p_s : Int) : Int) > 32))) rfl rfl rfl) ?_
      refine GL.val trivial rfl (OV.pickF (b := p_s == ([] : Str)) (v := .bool (decide (((List.length p_s : Int) : Int) > 32))) rfl hc1 rfl) ?_
      exact GL.jump0 (fun _ _ h => h) () rfl ⟨(by rw [hc1]; rfl), rfl, trivial⟩
  refine GL.val trivial rfl (OV.move (v := .bool ((p_s == ([] : Str)) || (decide (((List.length p_s : Int) : Int) > 32)))) rfl) ?_
  obtain ⟨J3, h, hR4⟩ := h
  refine GL.cut (α := Bool) 5 J3 (fun b2 => [(17, .bool b2), (0, sv p_s)]) ?_ ?_
  · rcases Bool.eq_false_or_eq_true ((p_s == ([] : Str)) || (decide (((List.length p_s : Int) : Int) > 32))) with hc5 | hc5
    · skip
      replace h := And.left h hc5
      refine GL.skip ⟨_, rfl, .inl ⟨_, rfl, hc5⟩⟩ rfl ?_
      refine GL.skip ⟨_, rfl, .inl ⟨_, rfl, hc5⟩⟩ rfl ?_
      refine GL.skip ⟨_, rfl, .inl ⟨_, rfl, hc5⟩⟩ rfl ?_
      refine GL.skip ⟨_, rfl, .inl ⟨_, rfl, hc5⟩⟩ rfl ?_
      refine GL.val trivial rfl (OV.pickT (b := (p_s == ([] : Str)) || (decide (((List.length p_s : Int) : Int) > 32))) (v := .bool true) rfl hc5 rfl) ?_
      exact GL.jump (fun _ _ h => h) true h ⟨rfl, rfl, trivial⟩
    · skip
      replace h := And.right h hc5
      refine GL.val ⟨_, _, rfl, rfl, hc5⟩ rfl (OV.move (v := sv p_s) rfl) ?_
      obtain ⟨c6, ha7, hb8, h⟩ := h
      refine GL.val ⟨_, _, rfl, rfl, hc5⟩ rfl (OV.indexStr (s := p_s) rfl rfl rfl ha7 hb8) ?_
      refine GL.call h ⟨_, _, rfl, rfl, hc5⟩ rfl ok_ref02_letter (vs := [.int .u8 (c6.toNat : Int)]) rfl ?_
      rintro _ H10 ⟨r9, rfl, h⟩
      refine GL.val ⟨_, _, rfl, rfl, hc5⟩ rfl (OV.not rfl) ?_
      refine GL.val trivial rfl (OV.pickF (b := (p_s == ([] : Str)) || (decide (((List.length p_s : Int) : Int) > 32))) (v := .bool (!r9)) rfl hc5 rfl) ?_
      exact GL.jump (fun _ _ h => h) (!r9) h ⟨rfl, rfl, trivial⟩
  intro b2 H11 h
  replace h := hR4 b2 H11 h
  refine GL.nil ?_
  refine GC.cond (b := b2) rfl (fun hc12 => ?_) (fun hc12 => ?_)
  · replace h := And.left h hc12
    refine GC.seq ?_
    refine GC.region ?_
    refine GL.val trivial rfl (OV.assign (v := .bool false) rfl) ?_
    refine GL.nil ?_
    exact GC.ret (fun _ _ hf hs => post_tmp1 rfl rfl hf hs ⟨false, rfl, h⟩)
  · replace h := And.right h hc12
    refine GC.skip ?_
    refine GC.seq ?_
    refine GC.seq ?_
    refine GC.region ?_
    refine GL.val trivial rfl (OV.assign (v := .int .i64 0) rfl) ?_
    refine GL.nil ?_
    refine GC.block ?_
    refine GC.loop (α := Int) h (fun x13 => [(3, .int .i64 x13), (0, sv p_s)]) ⟨rfl, rfl, trivial⟩ ?_
    intro x13 H15 J14 h
    refine GC.seq ?_
    refine GC.seq ?_
    refine GC.region ?_
    refine GL.val trivial rfl (OV.move (v := .int .i64 x13) rfl) ?_
    refine GL.val trivial rfl (OV.move (v := sv p_s) rfl) ?_
    refine GL.val trivial rfl (OV.lenStr (s := p_s) rfl rfl) ?_
    refine GL.val trivial rfl (OV.ibin (v := .bool (decide ((x13 : Int) < (List.length p_s : Int)))) rfl rfl rfl) ?_
    refine GL.nil ?_
    refine GC.cond (b := decide ((x13 : Int) < (List.length p_s : Int))) rfl (fun hc16 => ?_) (fun hc16 => ?_)
    · replace h := And.left h hc16
      refine GC.skip ?_
      refine GC.seq ?_
      refine GC.block ?_
      refine GC.seq ?_
      refine GC.region ?_
      refine GL.val trivial rfl (OV.move (v := sv p_s) rfl) ?_
      refine GL.val trivial rfl (OV.move (v := .int .i64 x13) rfl) ?_
      obtain ⟨c17, ha18, hb19, h⟩ := h
      refine GL.val trivial rfl (OV.indexStr (s := p_s) rfl rfl rfl ha18 hb19) ?_
      refine GL.val trivial rfl (OV.assign (v := .int .u8 (c17.toNat : Int)) rfl) ?_
      refine GL.nil ?_
      refine GC.seq ?_
      refine GC.region ?_
      refine GL.val trivial rfl (OV.move (v := .int .u8 (c17.toNat : Int)) rfl) ?_
      refine GL.call h trivial rfl ok_ref02_letter (vs := [.int .u8 (c17.toNat : Int)]) rfl ?_
      rintro _ H21 ⟨r20, rfl, h⟩
      refine GL.val trivial rfl (OV.not rfl) ?_
      refine GL.val trivial rfl (OV.move (v := .bool (!r20)) rfl) ?_
      refine GL.cut0 8 [(38, .bool ((!r20) && (!((decide (((c17.toNat : Int) : Int) ≥ 65)) && (decide (((c17.toNat : Int) : Int) ≤ 90)))))), (0, sv p_s), (3, .int .i64 x13), (4, .int .u8 (c17.toNat : Int))] ?_ ?_
      · rcases Bool.eq_false_or_eq_true (!r20) with hc22 | hc22
        · skip
          refine GL.val ⟨_, _, rfl, rfl, hc22⟩ rfl (OV.move (v := .int .u8 (c17.toNat : Int)) rfl) ?_
          refine GL.val ⟨_, _, rfl, rfl, hc22⟩ rfl (OV.ibin (v := .bool (decide (((c17.toNat : Int) : Int) ≥ 65))) rfl rfl rfl) ?_
          refine GL.val ⟨_, _, rfl, rfl, hc22⟩ rfl (OV.move (v := .bool (decide (((c17.toNat : Int) : Int) ≥ 65))) rfl) ?_
          refine GL.cut0 3 [(36, .bool ((decide (((c17.toNat : Int) : Int) ≥ 65)) && (decide (((c17.toNat : Int) : Int) ≤ 90)))), (0, sv p_s), (3, .int .i64 x13), (4, .int .u8 (c17.toNat : Int)), (30, .bool (!r20))] ?_ ?_
          · rcases Bool.eq_false_or_eq_true (decide (((c17.toNat : Int) : Int) ≥ 65)) with hc23 | hc23
            · skip
              refine GL.val ⟨_, _, rfl, rfl, hc23⟩ rfl (OV.move (v := .int .u8 (c17.toNat : Int)) rfl) ?_
              refine GL.val ⟨_, _, rfl, rfl, hc23⟩ rfl (OV.ibin (v := .bool (decide (((c17.toNat : Int) : Int) ≤ 90))) rfl rfl rfl) ?_
              refine GL.val ⟨_, _, rfl, rfl, hc22⟩ rfl (OV.pickT (b := decide (((c17.toNat : Int) : Int) ≥ 65)) (v := .bool (decide (((c17.toNat : Int) : Int) ≤ 90))) rfl hc23 rfl) ?_
              exact GL.jump0 (fun _ _ h => h) () rfl ⟨(by rw [hc23]; rfl), rfl, rfl, rfl, rfl, trivial⟩
            · skip
              refine GL.skip ⟨_, rfl, .inl ⟨_, rfl, hc23⟩⟩ rfl ?_
              refine GL.skip ⟨_, rfl, .inl ⟨_, rfl, hc23⟩⟩ rfl ?_
              refine GL.val ⟨_, _, rfl, rfl, hc22⟩ rfl (OV.pickF (b := decide (((c17.toNat : Int) : Int) ≥ 65)) (v := .bool false) rfl hc23 rfl) ?_
              exact GL.jump0 (fun _ _ h => h) () rfl ⟨(by rw [hc23]; rfl), rfl, rfl, rfl, rfl, trivial⟩
          refine GL.val ⟨_, _, rfl, rfl, hc22⟩ rfl (OV.not rfl) ?_
          refine GL.val trivial rfl (OV.pickT (b := !r20) (v := .bool (!((decide (((c17.toNat : Int) : Int) ≥ 65)) && (decide (((c17.toNat : Int) : Int) ≤ 90))))) rfl hc22 rfl) ?_
          exact GL.jump0 (fun _ _ h => h) () rfl ⟨(by rw [hc22]; rfl), rfl, rfl, rfl, trivial⟩
        · skip
          refine GL.skip ⟨_, rfl, .inl ⟨_, rfl, hc22⟩⟩ rfl ?_
          refine GL.skip ⟨_, rfl, .inl ⟨_, rfl, hc22⟩⟩ rfl ?_
          refine GL.skip ⟨_, rfl, .inl ⟨_, rfl, hc22⟩⟩ rfl ?_
          refine GL.skip ⟨_, rfl, .inr rfl⟩ rfl ?_
          refine GL.skip ⟨_, rfl, .inr rfl⟩ rfl ?_
          refine GL.skip ⟨_, rfl, .inl ⟨_, rfl, hc22⟩⟩ rfl ?_
          refine GL.skip ⟨_, rfl, .inl ⟨_, rfl, hc22⟩⟩ rfl ?_
          refine GL.val trivial rfl (OV.pickF (b := !r20) (v := .bool false) rfl hc22 rfl) ?_
          exact GL.jump0 (fun _ _ h => h) () rfl ⟨(by rw [hc22]; rfl), rfl, rfl, rfl, trivial⟩
      refine GL.val trivial rfl (OV.move (v := .bool ((!r20) && (!((decide (((c17.toNat : Int) : Int) ≥ 65)) && (decide (((c17.toNat : Int) : Int) ≤ 90)))))) rfl) ?_
      refine GL.cut0 8 [(47, .bool (((!r20) && (!((decide (((c17.toNat : Int) : Int) ≥ 65)) && (decide (((c17.toNat : Int) : Int) ≤ 90))))) && (!((decide (((c17.toNat : Int) : Int) ≥ 48)) && (decide (((c17.toNat : Int) : Int) ≤ 57)))))), (0, sv p_s), (3, .int .i64 x13), (4, .int .u8 (c17.toNat : Int))] ?_ ?_
      · rcases Bool.eq_false_or_eq_true ((!r20) && (!((decide (((c17.toNat : Int) : Int) ≥ 65)) && (decide (((c17.toNat : Int) : Int) ≤ 90))))) with hc24 | hc24
        · skip
          refine GL.val ⟨_, _, rfl, rfl, hc24⟩ rfl (OV.move (v := .int .u8 (c17.toNat : Int)) rfl) ?_
          refine GL.val ⟨_, _, rfl, rfl, hc24⟩ rfl (OV.ibin (v := .bool (decide (((c17.toNat : Int) : Int) ≥ 48))) rfl rfl rfl) ?_
          refine GL.val ⟨_, _, rfl, rfl, hc24⟩ rfl (OV.move (v := .bool (decide (((c17.toNat : Int) : Int) ≥ 48))) rfl) ?_
          refine GL.cut0 3 [(45, .bool ((decide (((c17.toNat : Int) : Int) ≥ 48)) && (decide (((c17.toNat : Int) : Int) ≤ 57)))), (0, sv p_s), (3, .int .i64 x13), (4, .int .u8 (c17.toNat : Int)), (39, .bool ((!r20) && (!((decide (((c17.toNat : Int) : Int) ≥ 65)) && (decide (((c17.toNat : Int) : Int) ≤ 90))))))] ?_ ?_
          · rcases Bool.eq_false_or_eq_true (decide (((c17.toNat : Int) : Int) ≥ 48)) with hc25 | hc25
            · skip
              refine GL.val ⟨_, _, rfl, rfl, hc25⟩ rfl (OV.move (v := .int .u8 (c17.toNat : Int)) rfl) ?_
              refine GL.val ⟨_, _, rfl, rfl, hc25⟩ rfl (OV.ibin (v := .bool (decide (((c17.toNat : Int) : Int) ≤ 57))) rfl rfl rfl) ?_
              refine GL.val ⟨_, _, rfl, rfl, hc24⟩ rfl (OV.pickT (b := decide (((c17.toNat : Int) : Int) ≥ 48)) (v := .bool (decide (((c17.toNat : Int) : Int) ≤ 57))) rfl hc25 rfl) ?_
              exact GL.jump0 (fun _ _ h => h) () rfl ⟨(by rw [hc25]; rfl), rfl, rfl, rfl, rfl, trivial⟩
            · skip
              refine GL.skip ⟨_, rfl, .inl ⟨_, rfl, hc25⟩⟩ rfl ?_
              refine GL.skip ⟨_, rfl, .inl ⟨_, rfl, hc25⟩⟩ rfl ?_
              refine GL.val ⟨_, _, rfl, rfl, hc24⟩ rfl (OV.pickF (b := decide (((c17.toNat : Int) : Int) ≥ 48)) (v := .bool false) rfl hc25 rfl) ?_
              exact GL.jump0 (fun _ _ h => h) () rfl ⟨(by rw [hc25]; rfl), rfl, rfl, rfl, rfl, trivial⟩
          refine GL.val ⟨_, _, rfl, rfl, hc24⟩ rfl (OV.not rfl) ?_
          refine GL.val trivial rfl (OV.pickT (b := (!r20) && (!((decide (((c17.toNat : Int) : Int) ≥ 65)) && (decide (((c17.toNat : Int) : Int) ≤ 90))))) (v := .bool (!((decide (((c17.toNat : Int) : Int) ≥ 48)) && (decide (((c17.toNat : Int) : Int) ≤ 57))))) rfl hc24 rfl) ?_
          exact GL.jump0 (fun _ _ h => h) () rfl ⟨(by rw [hc24]; rfl), rfl, rfl, rfl, trivial⟩
        · skip
          refine GL.skip ⟨_, rfl, .inl ⟨_, rfl, hc24⟩⟩ rfl ?_
          refine GL.skip ⟨_, rfl, .inl ⟨_, rfl, hc24⟩⟩ rfl ?_
          refine GL.skip ⟨_, rfl, .inl ⟨_, rfl, hc24⟩⟩ rfl ?_
          refine GL.skip ⟨_, rfl, .inr rfl⟩ rfl ?_
          refine GL.skip ⟨_, rfl, .inr rfl⟩ rfl ?_
          refine GL.skip ⟨_, rfl, .inl ⟨_, rfl, hc24⟩⟩ rfl ?_
          refine GL.skip ⟨_, rfl, .inl ⟨_, rfl, hc24⟩⟩ rfl ?_
          refine GL.val trivial rfl (OV.pickF (b := (!r20) && (!((decide (((c17.toNat : Int) : Int) ≥ 65)) && (decide (((c17.toNat : Int) : Int) ≤ 90))))) (v := .bool false) rfl hc24 rfl) ?_
          exact GL.jump0 (fun _ _ h => h) () rfl ⟨(by rw [hc24]; rfl), rfl, rfl, rfl, trivial⟩
      refine GL.val trivial rfl (OV.move (v := .bool (((!r20) && (!((decide (((c17.toNat : Int) : Int) ≥ 65)) && (decide (((c17.toNat : Int) : Int) ≤ 90))))) && (!((decide (((c17.toNat : Int) : Int) ≥ 48)) && (decide (((c17.toNat : Int) : Int) ≤ 57)))))) rfl) ?_
      refine GL.cut0 3 [(51, .bool ((((!r20) && (!((decide (((c17.toNat : Int) : Int) ≥ 65)) && (decide (((c17.toNat : Int) : Int) ≤ 90))))) && (!((decide (((c17.toNat : Int) : Int) ≥ 48)) && (decide (((c17.toNat : Int) : Int) ≤ 57))))) && (((c17.toNat : Int) : Int) != 95))), (0, sv p_s), (3, .int .i64 x13)] ?_ ?_
      · rcases Bool.eq_false_or_eq_true (((!r20) && (!((decide (((c17.toNat : Int) : Int) ≥ 65)) && (decide (((c17.toNat : Int) : Int) ≤ 90))))) && (!((decide (((c17.toNat : Int) : Int) ≥ 48)) && (decide (((c17.toNat : Int) : Int) ≤ 57))))) with hc26 | hc26
        · skip
          refine GL.val ⟨_, _, rfl, rfl, hc26⟩ rfl (OV.move (v := .int .u8 (c17.toNat : Int)) rfl) ?_
          refine GL.val ⟨_, _, rfl, rfl, hc26⟩ rfl (OV.ibin (v := .bool (((c17.toNat : Int) : Int) != 95)) rfl rfl rfl) ?_
          refine GL.val trivial rfl (OV.pickT (b := ((!r20) && (!((decide (((c17.toNat : Int) : Int) ≥ 65)) && (decide (((c17.toNat : Int) : Int) ≤ 90))))) && (!((decide (((c17.toNat : Int) : Int) ≥ 48)) && (decide (((c17.toNat : Int) : Int) ≤ 57))))) (v := .bool (((c17.toNat : Int) : Int) != 95)) rfl hc26 rfl) ?_
          exact GL.jump0 (fun _ _ h => h) () rfl ⟨(by rw [hc26]; rfl), rfl, rfl, trivial⟩
        · skip
          refine GL.skip ⟨_, rfl, .inl ⟨_, rfl, hc26⟩⟩ rfl ?_
          refine GL.skip ⟨_, rfl, .inl ⟨_, rfl, hc26⟩⟩ rfl ?_
          refine GL.val trivial rfl (OV.pickF (b := ((!r20) && (!((decide (((c17.toNat : Int) : Int) ≥ 65)) && (decide (((c17.toNat : Int) : Int) ≤ 90))))) && (!((decide (((c17.toNat : Int) : Int) ≥ 48)) && (decide (((c17.toNat : Int) : Int) ≤ 57))))) (v := .bool false) rfl hc26 rfl) ?_
          exact GL.jump0 (fun _ _ h => h) () rfl ⟨(by rw [hc26]; rfl), rfl, rfl, trivial⟩
      refine GL.nil ?_
      refine GC.cond (b := (((!r20) && (!((decide (((c17.toNat : Int) : Int) ≥ 65)) && (decide (((c17.toNat : Int) : Int) ≤ 90))))) && (!((decide (((c17.toNat : Int) : Int) ≥ 48)) && (decide (((c17.toNat : Int) : Int) ≤ 57))))) && (((c17.toNat : Int) : Int) != 95)) rfl (fun hc27 => ?_) (fun hc27 => ?_)
      · replace h := And.left h hc27
        refine GC.seq ?_
        refine GC.region ?_
        refine GL.val trivial rfl (OV.assign (v := .bool false) rfl) ?_
        refine GL.nil ?_
        exact GC.ret (fun _ _ hf hs => post_tmp1 rfl rfl hf hs ⟨false, rfl, h⟩)
      · replace h := And.right h hc27
        refine GC.skip_to (fun _ _ h => h) ?_
        refine GC.region ?_
        refine GL.val trivial rfl (OV.move (v := .int .i64 x13) rfl) ?_
        refine GL.val trivial rfl (OV.ibin (v := .int .i64 (w .i64 (x13 + 1))) rfl rfl rfl) ?_
        refine GL.val trivial rfl (OV.assign (v := .int .i64 (w .i64 (x13 + 1))) rfl) ?_
        exact GL.jump (fun _ _ h => h) (w .i64 (x13 + 1)) h ⟨rfl, rfl, trivial⟩
    · replace h := And.right h hc16
      refine GC.exit_to (fun _ _ h => h) ?_
      refine GC.seq ?_
      refine GC.region ?_
      refine GL.val trivial rfl (OV.assign (v := .bool true) rfl) ?_
      refine GL.nil ?_
      exact GC.ret (fun _ _ hf hs => post_tmp1 rfl rfl hf hs ⟨true, rfl, h⟩)

def sh_internal_stringslite_HasPrefix (C : Ctx) (p_s : Str) (p_prefix : Str) (K : Bool → Heap → Prop) (H : Heap) : Prop :=
  jn (α := Bool) (fun b1 H11 =>
 K b1 H11)
 (fun J2 => ift (decide (((List.length p_s : Int) : Int) ≥ (List.length p_prefix : Int)))
 (slS p_s 0 (List.length p_prefix : Int) fun t5 =>
 J2 (t5 == p_prefix) H)
 (J2 false H))

theorem ad_internal_stringslite_HasPrefix (C : Ctx) (p_s : Str) (p_prefix : Str) (K : Bool → Heap → Prop) (H : Heap) (h : sh_internal_stringslite_HasPrefix C p_s p_prefix K H) : c_internal_stringslite_HasPrefix C p_s p_prefix K H := by
  refine Spec.enter Tryd.func74 rfl Tryd.ntmps74 rfl ?_
  refine GC.sub [(0, sv p_s), (1, sv p_prefix)] ⟨rfl, rfl, trivial⟩ ?_
  refine GC.seq ?_
  refine GC.region ?_
  refine GL.val trivial rfl (OV.assign (v := .bool false) rfl) ?_
  refine GL.nil ?_
  refine GC.seq ?_
  refine GC.region ?_
  refine GL.val trivial rfl (OV.move (v := sv p_s) rfl) ?_
  refine GL.val trivial rfl (OV.lenStr (s := p_s) rfl rfl) ?_
  refine GL.val trivial rfl (OV.move (v := sv p_prefix) rfl) ?_
  refine GL.val trivial rfl (OV.lenStr (s := p_prefix) rfl rfl) ?_
  refine GL.val trivial rfl (OV.ibin (v := .bool (decide (((List.length p_s : Int) : Int) ≥ (List.length p_prefix : Int)))) rfl rfl rfl) ?_
  refine GL.val trivial rfl (OV.move (v := .bool (decide (((List.length p_s : Int) : Int) ≥ (List.length p_prefix : Int)))) rfl) ?_
  obtain ⟨J2, h, hR3⟩ := h
  refine GL.cut (α := Bool) 7 J2 (fun b1 => [(17, .bool b1)]) ?_ ?_
  · rcases Bool.eq_false_or_eq_true (decide (((List.length p_s : Int) : Int) ≥ (List.length p_prefix : Int))) with hc4 | hc4
    · skip
      replace h := And.left h hc4
      refine GL.val ⟨_, _, rfl, rfl, hc4⟩ rfl (OV.move (v := sv p_s) rfl) ?_
      refine GL.val ⟨_, _, rfl, rfl, hc4⟩ rfl (OV.move (v := sv p_prefix) rfl) ?_
      refine GL.val ⟨_, _, rfl, rfl, hc4⟩ rfl (OV.lenStr (s := p_prefix) rfl rfl) ?_
      obtain ⟨h6, h7, h8, t5, h9, h⟩ := h
      refine GL.val ⟨_, _, rfl, rfl, hc4⟩ rfl (OV.sliceStr (s := p_s) h6 h7 h8 h9 rfl rfl rfl rfl rfl rfl) ?_
      refine GL.val ⟨_, _, rfl, rfl, hc4⟩ rfl (OV.move (v := sv p_prefix) rfl) ?_
      refine GL.val ⟨_, _, rfl, rfl, hc4⟩ rfl (OV.sbin (a := t5) (b := p_prefix) (v := .bool (t5 == p_prefix)) rfl rfl rfl) ?_
      refine GL.val trivial rfl (OV.pickT (b := decide (((List.length p_s : Int) : Int) ≥ (List.length p_prefix : Int))) (v := .bool (t5 == p_prefix)) rfl hc4 rfl) ?_
      exact GL.jump (fun _ _ h => h) (t5 == p_prefix) h ⟨rfl, trivial⟩
    · skip
      replace h := And.right h hc4
      refine GL.skip ⟨_, rfl, .inl ⟨_, rfl, hc4⟩⟩ rfl ?_
      refine GL.skip ⟨_, rfl, .inl ⟨_, rfl, hc4⟩⟩ rfl ?_
      refine GL.skip ⟨_, rfl, .inl ⟨_, rfl, hc4⟩⟩ rfl ?_
      refine GL.skip ⟨_, rfl, .inl ⟨_, rfl, hc4⟩⟩ rfl ?_
      refine GL.skip ⟨_, rfl, .inl ⟨_, rfl, hc4⟩⟩ rfl ?_
      refine GL.skip ⟨_, rfl, .inl ⟨_, rfl, hc4⟩⟩ rfl ?_
      refine GL.val trivial rfl (OV.pickF (b := decide (((List.length p_s : Int) : Int) ≥ (List.length p_prefix : Int))) (v := .bool false) rfl hc4 rfl) ?_
      exact GL.jump (fun _ _ h => h) false h ⟨rfl, trivial⟩
  intro b1 H11 h
  replace h := hR3 b1 H11 h
  refine GL.val trivial rfl (OV.assign (v := .bool b1) rfl) ?_
  refine GL.nil ?_
  exact GC.ret (fun _ _ hf hs => post_tmp1 rfl rfl hf hs ⟨b1, rfl, h⟩)

def sh_strings_asciiSet_contains (C : Ctx) (p_as : Option (Nat × Nat)) (p_c : Int) (K : Bool → Heap → Prop) (H : Heap) : Prop :=
  nck p_as fun p1 =>
 ixr p1 256 p_c <|
 ldB H (p1.1, p1.2 + (p_c : Int).toNat * 1) fun x5 =>
 K x5 H

theorem ad_strings_asciiSet_contains (C : Ctx) (p_as : Option (Nat × Nat)) (p_c : Int) (K : Bool → Heap → Prop) (H : Heap) (h : sh_strings_asciiSet_contains C p_as p_c K H) : c_strings_asciiSet_contains C p_as p_c K H := by
  refine Spec.enter Tryd.func75 rfl Tryd.ntmps75 rfl ?_
  refine GC.sub [(0, pv p_as), (1, .int .u8 p_c)] ⟨rfl, rfl, trivial⟩ ?_
  refine GC.seq ?_
  refine GC.region ?_
  refine GL.val trivial rfl (OV.assign (v := .bool false) rfl) ?_
  refine GL.nil ?_
  refine GC.seq ?_
  refine GC.region ?_
  refine GL.val trivial rfl (OV.move (v := pv p_as) rfl) ?_
  refine GL.val trivial rfl (OV.move (v := .int .u8 p_c) rfl) ?_
  obtain ⟨p1, hp2, h⟩ := h
  refine GL.val trivial rfl (OV.nilCheck (q := p_as) rfl hp2) ?_
  obtain ⟨ha3, hb4, h⟩ := h
  refine GL.val trivial rfl (OV.indexAddrA (p := p1) rfl rfl rfl rfl ha3 hb4) ?_
  obtain ⟨x5, hr6, h⟩ := h
  refine GL.val trivial rfl (OV.load (p := (p1.1, p1.2 + (p_c : Int).toNat * 1)) rfl rfl hr6) ?_
  refine GL.val trivial rfl (OV.assign (v := .bool x5) rfl) ?_
  refine GL.nil ?_
  exact GC.ret (fun _ _ hf hs => post_tmp1 rfl rfl hf hs ⟨x5, rfl, h⟩)

def sh_internal_stringslite_IndexByte (C : Ctx) (p_s : Str) (p_c : Int) (K : Int → Heap → Prop) (H : Heap) : Prop :=
  K (idxB p_s p_c) H

theorem ad_internal_stringslite_IndexByte (C : Ctx) (p_s : Str) (p_c : Int) (K : Int → Heap → Prop) (H : Heap) (h : sh_internal_stringslite_IndexByte C p_s p_c K H) : c_internal_stringslite_IndexByte C p_s p_c K H := by
  refine Spec.enter Tryd.func79 rfl Tryd.ntmps79 rfl ?_
  refine GC.sub [(0, sv p_s), (1, .int .u8 p_c)] ⟨rfl, rfl, trivial⟩ ?_
  refine GC.seq ?_
  refine GC.region ?_
  refine GL.val trivial rfl (OV.assign (v := .int .i64 0) rfl) ?_
  refine GL.nil ?_
  refine GC.seq ?_
  refine GC.region ?_
  refine GL.val trivial rfl (OV.move (v := sv p_s) rfl) ?_
  refine GL.val trivial rfl (OV.move (v := .int .u8 p_c) rfl) ?_
  refine GL.val trivial rfl (OV.ext ext_internal_bytealg_IndexByteString (vs := [sv p_s, .int .u8 p_c]) (v := .int .i64 (idxB p_s p_c)) rfl (fun w => run_idxB _ _ w)) ?_
  refine GL.val trivial rfl (OV.assign (v := .int .i64 (idxB p_s p_c)) rfl) ?_
  refine GL.nil ?_
  exact GC.ret (fun _ _ hf hs => post_tmp1 rfl rfl hf hs ⟨(idxB p_s p_c), rfl, h⟩)

def sh_ref02_letter (C : Ctx) (p_c : Int) (K : Bool → Heap → Prop) (H : Heap) : Prop :=
  K ((decide ((p_c : Int) ≥ 97)) && (decide ((p_c : Int) ≤ 122))) H

theorem ad_ref02_letter (C : Ctx) (p_c : Int) (K : Bool → Heap → Prop) (H : Heap) (h : sh_ref02_letter C p_c K H) : c_ref02_letter C p_c K H := by
  refine Spec.enter Tryd.func83 rfl Tryd.ntmps83 rfl ?_
  refine GC.sub [(0, .int .u8 p_c)] ⟨rfl, trivial⟩ ?_
  refine GC.seq ?_
  refine GC.region ?_
  refine GL.val trivial rfl (OV.assign (v := .bool false) rfl) ?_
  refine GL.nil ?_
  refine GC.seq ?_
  refine GC.region ?_
  refine GL.val trivial rfl (OV.move (v := .int .u8 p_c) rfl) ?_
  refine GL.val trivial rfl (OV.ibin (v := .bool (decide ((p_c : Int) ≥ 97))) rfl rfl rfl) ?_
  refine GL.val trivial rfl (OV.move (v := .bool (decide ((p_c : Int) ≥ 97))) rfl) ?_
  refine GL.cut0 3 [(8, .bool ((decide ((p_c : Int) ≥ 97)) && (decide ((p_c : Int) ≤ 122))))] ?_ ?_
  · rcases Bool.eq_false_or_eq_true (decide ((p_c : Int) ≥ 97)) with hc1 | hc1
    · skip
      refine GL.val ⟨_, _, rfl, rfl, hc1⟩ rfl (OV.move (v := .int .u8 p_c) rfl) ?_
      refine GL.val ⟨_, _, rfl, rfl, hc1⟩ rfl (OV.ibin (v := .bool (decide ((p_c : Int) ≤ 122))) rfl rfl rfl) ?_
      refine GL.val trivial rfl (OV.pickT (b := decide ((p_c : Int) ≥ 97)) (v := .bool (decide ((p_c : Int) ≤ 122))) rfl hc1 rfl) ?_
      exact GL.jump0 (fun _ _ h => h) () rfl ⟨(by rw [hc1]; rfl), trivial⟩
    · skip
      refine GL.skip ⟨_, rfl, .inl ⟨_, rfl, hc1⟩⟩ rfl ?_
      refine GL.skip ⟨_, rfl, .inl ⟨_, rfl, hc1⟩⟩ rfl ?_
      refine GL.val trivial rfl (OV.pickF (b := decide ((p_c : Int) ≥ 97)) (v := .bool false) rfl hc1 rfl) ?_
      exact GL.jump0 (fun _ _ h => h) () rfl ⟨(by rw [hc1]; rfl), trivial⟩
  refine GL.val trivial rfl (OV.assign (v := .bool ((decide ((p_c : Int) ≥ 97)) && (decide ((p_c : Int) ≤ 122)))) rfl) ?_
  refine GL.nil ?_
  exact GC.ret (fun _ _ hf hs => post_tmp1 rfl rfl hf hs ⟨((decide ((p_c : Int) ≥ 97)) && (decide ((p_c : Int) ≤ 122))), rfl, h⟩)
end Sx
end

noncomputable section
set_option linter.unusedVariables false
namespace Go.Proofs
open Go.Shelf
def Tryd.lays173_ren : Go.Shelf.Ren := ⟨fun | 173 => 36 | 246 => 47 | 283 => 55 | 284 => 56 | 285 => 57 | 286 => 58 | 129 => 70 | 317 => 69 | 318 => 71 | 319 => 72 | 320 => 73 | 337 => 84 | 338 => 85 | n => n, fun | 2 => 2 | 3 => 3 | 9 => 9 | 4 => 4 | 171 => 91 | 0 => 0 | 53 => 92 | 37 => 65 | 5 => 5 | 173 => 95 | 212 => 107 | 51 => 108 | 20 => 20 | 213 => 109 | 46 => 84 | 232 => 122 | 233 => 123 | n => n, fun | 17 => 0 | 18 => 2 | 19 => 3 | n => n⟩
theorem Tryd.lays173 : Go.Proofs.LaysM.n173 Tryd.prog Tryd.lays173_ren := {
  mixed := by kernel_rfl
  f129 := Tryd.func70.trans (congrArg some (by kernel_rfl))
  f173 := Tryd.func36.trans (congrArg some (by kernel_rfl))
  f246 := Tryd.func47.trans (congrArg some (by kernel_rfl))
  f283 := Tryd.func55.trans (congrArg some (by kernel_rfl))
  f284 := Tryd.func56.trans (congrArg some (by kernel_rfl))
  f285 := Tryd.func57.trans (congrArg some (by kernel_rfl))
  f286 := Tryd.func58.trans (congrArg some (by kernel_rfl))
  f317 := Tryd.func69.trans (congrArg some (by kernel_rfl))
  f318 := Tryd.func71.trans (congrArg some (by kernel_rfl))
  f319 := Tryd.func72.trans (congrArg some (by kernel_rfl))
  f320 := Tryd.func73.trans (congrArg some (by kernel_rfl))
  f337 := Tryd.func84.trans (congrArg some (by kernel_rfl))
  f338 := Tryd.func85.trans (congrArg some (by kernel_rfl))
  t0 := Tryd.underlying0
  a0 := Tryd.isAgg0
  z0 := Tryd.sizeOf0
  v0 := Tryd.zeroValue0
  t2 := Tryd.underlying2
  a2 := Tryd.isAgg2
  z2 := Tryd.sizeOf2
  v2 := Tryd.zeroValue2
  t3 := Tryd.underlying3
  a3 := Tryd.isAgg3
  z3 := Tryd.sizeOf3
  v3 := Tryd.zeroValue3
  t4 := Tryd.underlying4
  a4 := Tryd.isAgg4
  z4 := Tryd.sizeOf4
  v4 := Tryd.zeroValue4
  t5 := Tryd.underlying5
  a5 := Tryd.isAgg5
  z5 := Tryd.sizeOf5
  v5 := Tryd.zeroValue5
  t9 := Tryd.underlying9
  a9 := Tryd.isAgg9
  z9 := Tryd.sizeOf9
  v9 := Tryd.zeroValue9
  t20 := Tryd.underlying20
  a20 := Tryd.isAgg20
  z20 := Tryd.sizeOf20
  v20 := Tryd.zeroValue20
  t37 := Tryd.underlying65
  a37 := Tryd.isAgg65
  z37 := Tryd.sizeOf65
  v37 := Tryd.zeroValue65
  t46 := Tryd.underlying84
  a46 := Tryd.isAgg84
  z46 := Tryd.sizeOf84
  v46 := Tryd.zeroValue84
  t51 := Tryd.underlying108
  a51 := Tryd.isAgg108
  z51 := Tryd.sizeOf108
  v51 := Tryd.zeroValue108
  t53 := Tryd.underlying92
  a53 := Tryd.isAgg92
  z53 := Tryd.sizeOf92
  v53 := Tryd.zeroValue92
  t171 := Tryd.underlying91
  a171 := Tryd.isAgg91
  z171 := Tryd.sizeOf91
  v171 := Tryd.zeroValue91
  t173 := Tryd.underlying95
  a173 := Tryd.isAgg95
  z173 := Tryd.sizeOf95
  v173 := Tryd.zeroValue95
  t212 := Tryd.underlying107
  a212 := Tryd.isAgg107
  z212 := Tryd.sizeOf107
  v212 := Tryd.zeroValue107
  t213 := Tryd.underlying109
  a213 := Tryd.isAgg109
  z213 := Tryd.sizeOf109
  t232 := Tryd.underlying122
  a232 := Tryd.isAgg122
  z232 := Tryd.sizeOf122
  v232 := Tryd.zeroValue122
  t233 := Tryd.underlying123
  a233 := Tryd.isAgg123
  z233 := Tryd.sizeOf123
  v233 := Tryd.zeroValue123
  g17 := by kernel_rfl
  g18 := by kernel_rfl
  g19 := by kernel_rfl
  i0 := by kernel_rfl
  i2 := by kernel_rfl
  i3 := by kernel_rfl
  i4 := by kernel_rfl
  i5 := by kernel_rfl
  i9 := by kernel_rfl
  i20 := by kernel_rfl
  i37 := by kernel_rfl
  i46 := by kernel_rfl
  i51 := by kernel_rfl
  i53 := by kernel_rfl
  i171 := by kernel_rfl
  i173 := by kernel_rfl
  i212 := by kernel_rfl
  i232 := by kernel_rfl
  i233 := by kernel_rfl
  m17 := by kernel_rfl
  m18 := by kernel_rfl
  m19 := by kernel_rfl }
end Go.Proofs
namespace Sx
open Go Go.Proofs Go.Stop Go.RowKit
/-- the table of powers, as it was laid -/
def PowT (C : Ctx) : Prop := ∃ t fr, C.old[(Tryd.lays173_ren.g 17)]? = some (.cells (Lib.pow10Tab.map fun z => Value.int .u64 z).toArray t fr)
/-- what writes numbers -/
structure FmtC (C : Ctx) : Prop where
  ok : ∀ {n : Int} {H : Heap} {K : Str → Heap → Prop}, -9223372036854775808 ≤ n → n ≤ 9223372036854775807 → K (Lib.itoa n) H → c_strconv_FormatInt C n 10 K H
theorem St.more {C : Ctx} {w : World} {H : Heap} (h : St C w H) (o : Obj) : St C { w with heap := w.heap.push o } H := by
  by_cases hc : ∃ c t fr, o = .cells c t fr
  · obtain ⟨c, t, fr, rfl⟩ := hc
    exact (h.push (o := .cells c t fr) (m := false) (g := .row c.toList) ⟨by simp, fun h => by cases h⟩).weaken (Heap.le_put h.fresh)
  · exact (h.push (o := o) (m := false) (g := .obj o) ⟨rfl, fun c t fr e => hc ⟨c, t, fr, e⟩⟩).weaken (Heap.le_put h.fresh)
theorem St.growL {C : Ctx} {H : Heap} : ∀ (os : List Obj) {w : World}, St C w H → St C { w with heap := w.heap ++ os.toArray } H
  | [], w, h => by
    have e : w.heap ++ ([] : List Obj).toArray = w.heap := by simp
    rw [e]; exact h
  | o :: os, w, h => by
    have e : w.heap ++ (o :: os).toArray = w.heap.push o ++ os.toArray := by apply Array.ext'; simp
    have := St.growL os (h.more o)
    rw [e]; exact this
theorem St.drewN {C : Ctx} {H : Heap} {w : World} (h : St C w H) : ∀ k, St C (w.drewN k) H
  | 0 => h
  | k + 1 => (St.drewN h k).drew
theorem fmt_ok {C : Ctx} (hT : PowT C) : FmtC C := ⟨fun {n H K} h0 h1 k => by
  intro w hw
  obtain ⟨t, fr, hg⟩ := hT
  have hlt := (Array.getElem?_eq_some_iff.1 hg).1
  refine (Any.strconv_FormatInt_10 Tryd.lays173 n h0 h1 w ?_).mono ?_
  · unfold Lib.TabIs World.var?
    rw [Tryd.lays173.m17]
    simp only [Option.bind_some]
    rw [hw.old _ hlt, hg]
  · rintro e w' ⟨rfl, k', os, rfl⟩
    have h2 := St.growL os.toList (hw.drewN k')
    rw [Array.toArray_toList] at h2
    exact ⟨_, H, rfl, h2, ⟨_, rfl, k⟩⟩⟩
theorem pow_laid {W : World} {name : String} (hg : Tryd.prog.globalNamed name = some (Tryd.lays173_ren.g 17)) : ∀ (i : Nat) {l : List (String × DataW Unit)} {ps : List MemPlace}, DataW.LaidVars Tryd.prog W l ps → l[i]? = some (name, Lib.tabData .u64 Lib.pow10Tab) → PowT (ctxOf W)
  | _, [], ps, _, hi => by simp at hi
  | 0, (n, d) :: r, ps, ⟨g, t, cs, fuel, p, q, h1, h2, h3, h4, h5, h6⟩, hi => by
    simp only [List.getElem?_cons_zero, Option.some.injEq, Prod.mk.injEq] at hi
    obtain ⟨rfl, rfl⟩ := hi
    obtain rfl := Option.some.inj (hg.symm.trans h1)
    have hT : (Tryd.prog.globals[(Tryd.lays173_ren.g 17)]?).map (·.type) = some 107 := by kernel_rfl
    obtain rfl := Option.some.inj (hT.symm.trans h2)
    have hc := Lib.cells_of_tab Tryd.underlying107 Tryd.underlying92 (by kernel_rfl) (by kernel_rfl) h4
    unfold World.var? at h3
    rw [h1] at h3
    simp only [Option.bind_some] at h3
    cases hb : W.heap[(Tryd.lays173_ren.g 17)]? with
    | none => rw [hb] at h3; cases h3
    | some o =>
      rw [hb] at h3
      cases o <;> simp only [reduceCtorEq, Option.some.injEq] at h3
      rename_i c ty fr
      subst h3
      refine ⟨ty, fr, ?_⟩
      show W.heap[(Tryd.lays173_ren.g 17)]? = _
      rw [hb, ← hc]
  | i + 1, (n, d) :: r, ps, ⟨g, t, cs, fuel, p, q, h1, h2, h3, h4, h5, h6⟩, hi => pow_laid hg i h5 (by simpa using hi)
theorem pow_met {W : World} {name : String} {l : List (String × DataW Unit)} (h : laidMet Tryd.prog l W) (i : Nat) (hi : l[i]? = some (name, Lib.tabData .u64 Lib.pow10Tab)) (hg : Tryd.prog.globalNamed name = some (Tryd.lays173_ren.g 17)) : PowT (ctxOf W) := by
  obtain ⟨ps, h1, _⟩ := h
  exact pow_laid hg i h1 hi
end Sx
end

noncomputable section
set_option linter.unusedVariables false
set_option linter.unusedSimpArgs false
namespace Sx
open Go
inductive V where
  | mk (k n : Int) (s : Str) (l : List V)

namespace V
def k : V → Int | .mk k _ _ _ => k
def n : V → Int | .mk _ n _ _ => n
def s : V → Str | .mk _ _ s _ => s
def l : V → List V | .mk _ _ _ l => l
end V
mutual
def vsize : V → Nat
  | .mk _ _ _ l => vsizes l + 1
def vsizes : List V → Nat
  | [] => 0
  | v :: l => vsize v + vsizes l
end
theorem vsize_mem : ∀ {l : List V} {v : V}, v ∈ l → vsize v ≤ vsizes l
  | w :: l, v, h => by
    simp only [vsizes]
    rcases List.mem_cons.1 h with rfl | h
    · omega
    · have := vsize_mem h; omega
theorem vsize_l {v w : V} (h : w ∈ v.l) : vsize w < vsize v := by
  obtain ⟨k, n, s, l⟩ := v
  have := vsize_mem (show w ∈ l from h)
  simp only [vsize]; omega
/-- by how great a value is -/
theorem V.rec_ {P : V → Prop} (h : ∀ v, (∀ w ∈ v.l, P w) → P v) (v : V) : P v := by
  have : ∀ n v, vsize v ≤ n → P v := by
    intro n
    induction n with
    | zero => intro v hv; obtain ⟨k, n, s, l⟩ := v; simp [vsize] at hv
    | succ n ih => intro v hv; exact h v fun w hw => ih w (by have := vsize_l hw; omega)
  exact this _ v (Nat.le_refl _)

mutual
def dep : V → Nat
  | .mk _ _ _ l => deps l + 1
def deps : List V → Nat
  | [] => 0
  | v :: l => max (dep v) (deps l)
end
theorem dep_eq (v : V) : dep v = deps v.l + 1 := by obtain ⟨k, n, s, l⟩ := v; rfl
theorem deps_append : ∀ (a b : List V), deps (a ++ b) = max (deps a) (deps b)
  | [], b => by simp [deps]
  | v :: a, b => by simp only [List.cons_append, deps, deps_append a b]; omega
theorem deps_take {l : List V} {i : Nat} (h : i < l.length) : deps (l.take (i + 1)) = max (deps (l.take i)) (dep l[i]) := by
  rw [List.take_add_one, List.getElem?_eq_getElem h, Option.toList_some, deps_append]; simp [deps]
theorem deps_le : ∀ {l : List V} {v : V}, v ∈ l → dep v ≤ deps l
  | w :: l, v, h => by
    simp only [deps]
    rcases List.mem_cons.1 h with rfl | h
    · omega
    · have := deps_le h; omega
theorem dep_le_size (v : V) : dep v ≤ vsize v := by
  have h : ∀ (l : List V), (∀ w ∈ l, dep w ≤ vsize w) → deps l ≤ vsizes l := by
    intro l
    induction l with
    | nil => intro _; simp [deps]
    | cons v l ih =>
      intro h
      have h1 := h v (List.mem_cons_self ..)
      have h2 := ih fun w hw => h w (List.mem_cons_of_mem _ hw)
      simp only [deps, vsizes]; omega
  refine V.rec_ (P := fun v => dep v ≤ vsize v) (fun v ih => ?_) v
  obtain ⟨k, n, s, l⟩ := v
  have := h l ih
  simp only [dep, vsize]; omega

def lowC (c : UInt8) : Bool := decide (97 ≤ c.toNat) && decide (c.toNat ≤ 122)
def nameC (c : UInt8) : Bool := lowC c || (decide (65 ≤ c.toNat) && decide (c.toNat ≤ 90)) || (decide (48 ≤ c.toNat) && decide (c.toNat ≤ 57)) || decide (c.toNat = 95)
def nameS (s : Str) : Bool := !s.isEmpty && decide (s.length ≤ 32) && lowC (s.headD 0) && s.all nameC
def digC (c : UInt8) : Bool := decide (48 ≤ c.toNat) && decide (c.toNat ≤ 57)
def cutD : Str → Option (Str × Str)
  | [] => none
  | c :: t => if c = 46 then some ([], t) else (cutD t).map fun p => (c :: p.1, p.2)
theorem cutD_at : ∀ (a b : Str), (46 : UInt8) ∉ a → cutD (a ++ 46 :: b) = some (a, b)
  | [], b, _ => by simp [cutD]
  | c :: a, b, h => by
    have h1 : c ≠ 46 := fun e => h (by rw [e]; exact List.mem_cons_self ..)
    simp only [List.cons_append, cutD, if_neg h1, cutD_at a b fun hh => h (List.mem_cons_of_mem _ hh)]; rfl
theorem cutD_no : ∀ (a : Str), (46 : UInt8) ∉ a → cutD a = none
  | [], _ => rfl
  | c :: a, h => by
    have h1 : c ≠ 46 := fun e => h (by rw [e]; exact List.mem_cons_self ..)
    simp only [cutD, if_neg h1, cutD_no a fun hh => h (List.mem_cons_of_mem _ hh)]; rfl
theorem cutD_mem : ∀ (s : Str), (46 : UInt8) ∈ s → ∃ a b, s = a ++ 46 :: b ∧ 46 ∉ a
  | c :: s, h => by
    by_cases hc : c = 46
    · exact ⟨[], s, by rw [hc]; rfl, by simp⟩
    · obtain ⟨a, b, h1, h2⟩ := cutD_mem s (by simpa [Ne.symm hc] using h)
      exact ⟨c :: a, b, by rw [h1]; rfl, by simp [h2, Ne.symm hc]⟩
def trueS : Str := [116, 114, 117, 101]
def falseS : Str := [102, 97, 108, 115, 101]
def namesS (s : Str) : Bool := if s = trueS ∨ s = falseS then false else match cutD s with
  | some (a, b) => nameS a && nameS b
  | none => nameS s
def unmin (s : Str) : Str := if s.head? = some 45 then s.tail else s
def numS (s : Str) : Bool := !(unmin s).isEmpty && (unmin s).all digC && !(decide ((unmin s).head? = some 48) && decide (s ≠ [48]))
def digits (s : Str) : Nat := (unmin s).length

def okN (k n : Int) (s : Str) (m : Nat) : Bool :=
  if k = 1 then (n == 0 || n == 1) && s.isEmpty && decide (m = 0)
  else if k = 2 then s.isEmpty && decide (m = 0)
  else if k = 3 then numS s && n == 0 && decide (m = 0)
  else if k = 4 then n == 0 && decide (m = 0)
  else if k = 5 then n == 0 && s.isEmpty && decide (m ≠ 1)
  else if k = 6 then n == 0 && namesS s
  else false
def fitN (k : Int) (s : Str) (m : Nat) : Bool :=
  if k = 3 then decide (digits s ≤ 200)
  else if k = 4 then decide (s.length ≤ 4096)
  else if k = 5 then decide (m ≤ 16)
  else if k = 6 then decide (m ≤ 8)
  else true
mutual
def formV : V → Bool
  | .mk k n s l => okN k n s l.length && formVs l
def formVs : List V → Bool
  | [] => true
  | v :: l => formV v && formVs l
end
mutual
def fitsV : V → Bool
  | .mk k n s l => fitN k s l.length && fitsVs l
def fitsVs : List V → Bool
  | [] => true
  | v :: l => fitsV v && fitsVs l
end
theorem formV_eq (v : V) : formV v = (okN v.k v.n v.s v.l.length && formVs v.l) := by obtain ⟨k, n, s, l⟩ := v; rfl
theorem fitsV_eq (v : V) : fitsV v = (fitN v.k v.s v.l.length && fitsVs v.l) := by obtain ⟨k, n, s, l⟩ := v; rfl
theorem formVs_append : ∀ (a b : List V), formVs (a ++ b) = (formVs a && formVs b)
  | [], b => by simp [formVs]
  | v :: a, b => by simp only [List.cons_append, formVs, formVs_append a b, Bool.and_assoc]
theorem fitsVs_append : ∀ (a b : List V), fitsVs (a ++ b) = (fitsVs a && fitsVs b)
  | [], b => by simp [fitsVs]
  | v :: a, b => by simp only [List.cons_append, fitsVs, fitsVs_append a b, Bool.and_assoc]
theorem formVs_take {l : List V} {i : Nat} (h : i < l.length) : formVs (l.take (i + 1)) = (formVs (l.take i) && formV l[i]) := by
  rw [List.take_add_one, List.getElem?_eq_getElem h, Option.toList_some, formVs_append]; simp [formVs]
theorem fitsVs_take {l : List V} {i : Nat} (h : i < l.length) : fitsVs (l.take (i + 1)) = (fitsVs (l.take i) && fitsV l[i]) := by
  rw [List.take_add_one, List.getElem?_eq_getElem h, Option.toList_some, fitsVs_append]; simp [fitsVs]
theorem formVs_false : ∀ {l : List V} {v : V}, v ∈ l → formV v = false → formVs l = false
  | w :: l, v, h, hv => by
    simp only [formVs]
    rcases List.mem_cons.1 h with rfl | h
    · rw [hv]; rfl
    · rw [formVs_false h hv, Bool.and_false]
theorem formVs_mem : ∀ {l : List V} {v : V}, v ∈ l → formVs l = true → formV v = true := fun h hl => by
  cases hv : formV _ with
  | true => rfl
  | false => rw [formVs_false h hv] at hl; cases hl
def checkV (v : V) : Int := if dep v > 64 then 65 else if formV v = false then 4 else if fitsV v = false then 40 else 0
def mayV (v : V) : Bool := decide (checkV v = 0)
theorem mayV_iff (v : V) : mayV v = true ↔ dep v ≤ 64 ∧ formV v = true ∧ fitsV v = true := by
  unfold mayV checkV
  rw [decide_eq_true_eq]
  by_cases h1 : dep v > 64
  · simp [h1]; omega
  · rw [if_neg h1]
    cases hf : formV v <;> cases hg : fitsV v <;> simp <;> omega

def sgn (a b : Int) : Int := if a < b then -1 else if b < a then 1 else 0
def vcmpS : Str → Str → Int
  | [], [] => 0
  | [], _ :: _ => -1
  | _ :: _, [] => 1
  | a :: s, b :: t => if a = b then vcmpS s t else sgn a.toNat b.toNat
/-- of whole numbers without their signs -/
def cmpD (a b : Str) : Int := if a.length = b.length then vcmpS a b else sgn a.length b.length
def isMin (s : Str) : Bool := decide (s.head? = some 45)
def cmpB (a b : Str) : Int := if isMin a then (if isMin b then cmpD b.tail a.tail else -1) else if isMin b then 1 else cmpD a b
mutual
def cmpV : V → V → Int
  | .mk k n s l, .mk k' n' s' l' =>
    if k ≠ k' then sgn k k'
    else if k = 3 then cmpB s s'
    else if k = 4 then vcmpS s s'
    else if k = 5 then cmpVs l l'
    else if k = 6 then (if vcmpS s s' ≠ 0 then vcmpS s s' else cmpVs l l')
    else sgn n n'
def cmpVs : List V → List V → Int
  | [], [] => 0
  | [], _ :: _ => -1
  | _ :: _, [] => 1
  | v :: l, w :: m => if cmpV v w ≠ 0 then cmpV v w else cmpVs l m
end
def lastB (a b : Bool) : Int := if a = b then 0 else if a then -1 else 1
def mayR (l : List V) : Bool := l.all mayV
def cmpR (l m : List V) : Int := if mayR l = true ∧ mayR m = true then cmpVs l m else lastB (mayR l) (mayR m)

mutual
def sameV : V → V → Bool
  | .mk k n s l, .mk k' n' s' l' => k == k' && n == n' && decide (s = s') && sameVs l l'
def sameVs : List V → List V → Bool
  | [], [] => true
  | v :: l, w :: m => sameV v w && sameVs l m
  | _, _ => false
end
theorem sameVs_eq (h : ∀ v w : V, sameV v w = true → v = w) : ∀ {l m : List V}, sameVs l m = true → l = m
  | [], [], _ => rfl
  | [], _ :: _, h' => by simp [sameVs] at h'
  | _ :: _, [], h' => by simp [sameVs] at h'
  | v :: l, w :: m, h' => by
    simp only [sameVs, Bool.and_eq_true] at h'
    rw [h v w h'.1, sameVs_eq h h'.2]
theorem sameV_eq {v w : V} (h : sameV v w = true) : v = w := by
  have key : ∀ v : V, ∀ w, sameV v w = true → v = w := by
    refine V.rec_ (P := fun v => ∀ w, sameV v w = true → v = w) fun v ih w h => ?_
    obtain ⟨k, n, s, l⟩ := v
    obtain ⟨k', n', s', l'⟩ := w
    simp only [sameV, Bool.and_eq_true, beq_iff_eq, decide_eq_true_eq] at h
    obtain ⟨⟨⟨rfl, rfl⟩, rfl⟩, h⟩ := h
    have : ∀ (l m : List V), (∀ v ∈ l, ∀ w, sameV v w = true → v = w) → sameVs l m = true → l = m := by
      intro l
      induction l with
      | nil => intro m _ h; cases m with
        | nil => rfl
        | cons _ _ => simp [sameVs] at h
      | cons v l ihl =>
        intro m hh h
        cases m with
        | nil => simp [sameVs] at h
        | cons w m =>
          simp only [sameVs, Bool.and_eq_true] at h
          rw [hh v (List.mem_cons_self ..) w h.1, ihl m (fun v hv => hh v (List.mem_cons_of_mem _ hv)) h.2]
    rw [this l l' ih h]
  exact key v w h
mutual
theorem sameV_refl : ∀ v : V, sameV v v = true
  | .mk k n s l => by simp [sameV, sameVs_refl l]
theorem sameVs_refl : ∀ l : List V, sameVs l l = true
  | [] => rfl
  | v :: l => by simp [sameVs, sameV_refl v, sameVs_refl l]
end
theorem sameV_iff {v w : V} : sameV v w = true ↔ v = w := ⟨sameV_eq, fun h => h ▸ sameV_refl v⟩
theorem sameVs_iff {l m : List V} : sameVs l m = true ↔ l = m := ⟨sameVs_eq fun _ _ => sameV_eq, fun h => h ▸ sameVs_refl l⟩
end Sx
end

noncomputable section
set_option linter.unusedVariables false
set_option linter.unusedSimpArgs false
set_option maxRecDepth 10000
namespace Sx
open Go Go.Proofs
theorem flat_get {α β : Type} (f : α → List β) (z : Nat) (hz : ∀ x, (f x).length = z) : ∀ (l : List α) (i : Nat) (x : α), l[i]? = some x → ∀ (j : Nat) (v : β), (f x)[j]? = some v → (l.flatMap f)[i * z + j]? = some v
  | [], i, x, h, j, v, hv => by simp at h
  | y :: l, 0, x, h, j, v, hv => by
    simp at h; subst h
    rw [List.flatMap_cons, Nat.zero_mul, Nat.zero_add, List.getElem?_append_left (List.getElem?_eq_some_iff.1 hv).1]; exact hv
  | y :: l, i + 1, x, h, j, v, hv => by
    have := flat_get f z hz l i x (by simpa using h) j v hv
    rw [List.flatMap_cons, List.getElem?_append_right (by rw [hz, Nat.add_mul]; omega), hz]
    rw [show (i + 1) * z + j - z = i * z + j by rw [Nat.add_mul]; omega]; exact this

abbrev TV := T_api_Value
theorem TV.c_len (x : TV) : (T_api_Value.c x).length = 4 := rfl

mutual
def VIs (H : Heap) : V → TV → Prop
  | .mk k n s l, x => x.Kind = k ∧ x.N = n ∧ x.S = s ∧ ∃ xs : List TV, rdsl H x.L (xs.flatMap T_api_Value.c) ∧ x.L.len = xs.length ∧ VsAre H l xs
def VsAre (H : Heap) : List V → List TV → Prop
  | [], [] => True
  | v :: l, x :: xs => VIs H v x ∧ VsAre H l xs
  | [], _ :: _ => False
  | _ :: _, [] => False
end
/-- a row of values -/
def VRow (H : Heap) (t : Sl) (l : List V) : Prop := ∃ xs : List TV, rdsl H t (xs.flatMap T_api_Value.c) ∧ t.len = xs.length ∧ VsAre H l xs
theorem VIs_iff {H : Heap} {v : V} {x : TV} : VIs H v x ↔ x.Kind = v.k ∧ x.N = v.n ∧ x.S = v.s ∧ VRow H x.L v.l := by obtain ⟨k, n, s, l⟩ := v; rfl
theorem VsAre.len {H : Heap} : ∀ {l : List V} {xs : List TV}, VsAre H l xs → l.length = xs.length
  | [], [], _ => rfl
  | v :: l, x :: xs, h => by have := VsAre.len h.2; simp [this]
theorem VsAre.get {H : Heap} : ∀ {l : List V} {xs : List TV}, VsAre H l xs → ∀ (i : Nat) (v : V) (x : TV), l[i]? = some v → xs[i]? = some x → VIs H v x
  | [], [], _, i, v, x, h, _ => by simp at h
  | v :: l, x :: xs, h, 0, v', x', h1, h2 => by simp at h1 h2; subst h1; subst h2; exact h.1
  | v :: l, x :: xs, h, i + 1, v', x', h1, h2 => VsAre.get h.2 i v' x' (by simpa using h1) (by simpa using h2)
theorem VsAre.of {H : Heap} : ∀ {l : List V} {xs : List TV}, l.length = xs.length → (∀ (i : Nat) (v : V) (x : TV), l[i]? = some v → xs[i]? = some x → VIs H v x) → VsAre H l xs
  | [], [], _, _ => trivial
  | v :: l, x :: xs, h, hg => ⟨hg 0 v x rfl rfl, VsAre.of (by simpa using h) fun i v' x' h1 h2 => hg (i + 1) v' x' (by simpa using h1) (by simpa using h2)⟩
mutual
theorem VIs.le {A B : Heap} (h : A.le B) : ∀ {v : V} {x : TV}, VIs A v x → VIs B v x
  | .mk k n s l, x, ⟨h1, h2, h3, xs, h4, h5, h6⟩ => ⟨h1, h2, h3, xs, rdsl_le h h4, h5, VsAre.le h h6⟩
theorem VsAre.le {A B : Heap} (h : A.le B) : ∀ {l : List V} {xs : List TV}, VsAre A l xs → VsAre B l xs
  | [], [], _ => trivial
  | v :: l, x :: xs, ⟨h1, h2⟩ => ⟨VIs.le h h1, VsAre.le h h2⟩
end
theorem VRow.le {A B : Heap} {t : Sl} {l : List V} (h : VRow A t l) (hle : A.le B) : VRow B t l := by
  obtain ⟨xs, h1, h2, h3⟩ := h
  exact ⟨xs, rdsl_le hle h1, h2, h3.le hle⟩
theorem VRow.len {H : Heap} {t : Sl} {l : List V} (h : VRow H t l) : t.len = l.length := by
  obtain ⟨xs, h1, h2, h3⟩ := h
  rw [h2, h3.len]
theorem VIs.kind {H : Heap} {v : V} {x : TV} (h : VIs H v x) : x.Kind = v.k := (VIs_iff.1 h).1
theorem VIs.num {H : Heap} {v : V} {x : TV} (h : VIs H v x) : x.N = v.n := (VIs_iff.1 h).2.1
theorem VIs.txt {H : Heap} {v : V} {x : TV} (h : VIs H v x) : x.S = v.s := (VIs_iff.1 h).2.2.1
theorem VIs.row {H : Heap} {v : V} {x : TV} (h : VIs H v x) : VRow H x.L v.l := (VIs_iff.1 h).2.2.2

/-- one of a row's values -/
theorem VRow.ld {A H : Heap} {t : Sl} {l : List V} (h : VRow A t l) (hle : A.le H) {i : Nat} {x : Int} {K : TV → Prop} (hx : x = i) (hi : i < l.length) (k : ∀ y, VIs A l[i] y → K y) : ixa t x fun p => ldT H T_api_Value.c (p.1, p.2 + x.toNat * 4) K := by
  have hl := h.len
  obtain ⟨xs, h1, h2, h3⟩ := h
  have hi2 : i < xs.length := by omega
  have hg := List.getElem?_eq_getElem hi2
  subst hx
  refine ixa_of (rdsl_le hle h1) (by omega) (by omega) (fun e => ?_) fun p _ hp => ⟨xs[i], ?_, k _ (h3.get i _ _ (List.getElem?_eq_getElem hi) hg)⟩
  · have := flat_get T_api_Value.c 4 TV.c_len xs i _ hg 0 _ rfl
    rw [e] at this; simp at this
  · refine rds_of fun j v hj => ?_
    have := rds_get hp _ _ (flat_get T_api_Value.c 4 TV.c_len xs i _ hg j v hj)
    rw [show p.2 + (i : Int).toNat * 4 + j = p.2 + (i * 4 + j) by omega]; exact this

mutual
def VB : V → Prop
  | .mk k n s l => (0 ≤ k ∧ k ≤ 255) ∧ (-9223372036854775808 ≤ n ∧ n ≤ 9223372036854775807) ∧ s.length ≤ 140737488355328 ∧ l.length ≤ 140737488355328 ∧ VBs l
def VBs : List V → Prop
  | [] => True
  | v :: l => VB v ∧ VBs l
end
theorem VBs.mem : ∀ {l : List V}, VBs l → ∀ {v}, v ∈ l → VB v
  | w :: l, h, v, hv => by
    rcases List.mem_cons.1 hv with rfl | hv
    · exact h.1
    · exact VBs.mem h.2 hv
theorem VBs.of : ∀ {l : List V}, (∀ v ∈ l, VB v) → VBs l
  | [], _ => trivial
  | v :: l, h => ⟨h v (List.mem_cons_self ..), VBs.of fun w hw => h w (List.mem_cons_of_mem _ hw)⟩
theorem VB.k {v : V} (h : VB v) : 0 ≤ v.k ∧ v.k ≤ 255 := by obtain ⟨k, n, s, l⟩ := v; exact h.1
theorem VB.n {v : V} (h : VB v) : -9223372036854775808 ≤ v.n ∧ v.n ≤ 9223372036854775807 := by obtain ⟨k, n, s, l⟩ := v; exact h.2.1
theorem VB.s {v : V} (h : VB v) : v.s.length ≤ 140737488355328 := by obtain ⟨k, n, s, l⟩ := v; exact h.2.2.1
theorem VB.l {v : V} (h : VB v) : v.l.length ≤ 140737488355328 := by obtain ⟨k, n, s, l⟩ := v; exact h.2.2.2.1
theorem VB.ls {v : V} (h : VB v) : VBs v.l := by obtain ⟨k, n, s, l⟩ := v; exact h.2.2.2.2
theorem VB.at {v : V} (h : VB v) {i : Nat} (hi : i < v.l.length) : VB v.l[i] := h.ls.mem (List.getElem_mem hi)

section
variable {B : Heap} {b : Nat} {m : Bool} {x : TV}
theorem rd_box (h : B b = some (m, .row (T_api_Value.c x))) : rd B (b, 0) = some (.int .u8 x.Kind) ∧ rd B (b, 1) = some (.int .i64 x.N) ∧ rd B (b, 2) = some (sv x.S) ∧ rd B (b, 3) = some (slv x.L) :=
  ⟨by rw [rd_row h]; rfl, by rw [rd_row h]; rfl, by rw [rd_row h]; rfl, by rw [rd_row h]; rfl⟩
theorem bxK {K : Int → Prop} (h : B b = some (m, .row (T_api_Value.c x))) (k : K x.Kind) : ldI B .u8 ((b, 0).1, (b, 0).2 + 0) K := ⟨_, (rd_box h).1, k⟩
theorem bxN {K : Int → Prop} (h : B b = some (m, .row (T_api_Value.c x))) (k : K x.N) : ldI B .i64 ((b, 0).1, (b, 0).2 + 1) K := ⟨_, (rd_box h).2.1, k⟩
theorem bxS {K : Str → Prop} (h : B b = some (m, .row (T_api_Value.c x))) (k : K x.S) : ldS B ((b, 0).1, (b, 0).2 + 2) K := ⟨_, (rd_box h).2.2.1, k⟩
theorem bxL {K : Sl → Prop} (h : B b = some (m, .row (T_api_Value.c x))) (k : K x.L) : ldL B ((b, 0).1, (b, 0).2 + 3) K := ⟨_, (rd_box h).2.2.2, k⟩
theorem bxV {K : TV → Prop} (h : B b = some (m, .row (T_api_Value.c x))) (k : K x) : ldT B T_api_Value.c (b, 0) K := ⟨x, rds_row h fun j v hj => by simpa using hj, k⟩
end
section
variable {C : Ctx} {H : Heap}
theorem ref02_Depth_ok {v : V} {x : TV} {H : Heap} {K : Int → Heap → Prop} (hv : VIs H v x) (hB : VB v) (hs : vsize v ≤ 4611686018427387904) (k : K (dep v) H) : c_ref02_Depth C x K H := by
  refine V.rec_ (P := fun v => ∀ {x H} {K : Int → Heap → Prop}, VIs H v x → VB v → vsize v ≤ 4611686018427387904 → K (dep v) H → c_ref02_Depth C x K H) (fun v ih => ?_) v hv hB hs k
  clear hv hB hs k
  intro x H K hv hB hs k
  apply c_ref02_Depth.gh
  apply ad_ref02_Depth
  unfold sh_ref02_Depth
  intro b1 n1
  have hr := hv.row
  have hl := hr.len
  have hbl := hB.l
  have hds := dep_le_size v
  have hde := dep_eq v
  refine ⟨fun y H' => ∃ i : Nat, y = ((deps (v.l.take i) : Int), (i : Int)) ∧ i ≤ v.l.length ∧ (H.put b1 (.row (T_api_Value.c x))).le H', fun y _ => v.l.length - y.2.toNat, ⟨0, by simp [deps], Nat.zero_le _, Heap.le.refl _⟩, ?_⟩
  rintro _ H' ⟨i, rfl, hi, hle⟩
  have hb := hle _ _ (Heap.put_same ..)
  have hle0 := (Heap.le_put n1).trans hle
  refine bxL hb ?_
  rw [hl]
  refine ift.of (fun h => ?_) (fun h => ?_)
  · have hlt : i < v.l.length := by have := of_decide_eq_true h; dsimp only at this; omega
    have hmem := List.getElem_mem hlt
    have hsz := vsize_l hmem
    have hdl := deps_le hmem
    refine bxL hb ?_
    refine hr.ld hle0 rfl hlt fun y hy => ?_
    refine ih _ hmem (hy.le hle0) (hB.at hlt) (by omega) ?_
    have hdt := deps_take hlt
    dsimp only
    rw [w_i64 (by omega) (by omega)]
    refine ⟨⟨i + 1, ?_, by omega, hle⟩, by first | omega | (dsimp only; omega)⟩
    rw [hdt]
    refine Prod.ext ?_ rfl
    dsimp only
    split <;> omega
  · have hie : i = v.l.length := by have := of_decide_eq_false h; dsimp only at this; omega
    subst hie
    dsimp only
    rw [List.take_length, w_i64 (by omega) (by omega)]
    refine ⟨H, Gh.le hle0, ?_⟩
    rw [hde] at k; exact k

theorem value_depth_ok {v : V} {x : TV} {H : Heap} {m : Nat} {K : Int → Heap → Prop} (hv : VIs H v x) (hB : VB v) (hm : m ≤ 1000) (k : ∀ r : Nat, r ≤ m + 1 → r ≤ dep v → (r = dep v ∨ m + 1 ≤ r) → K r H) : c_value_depth C x m K H := by
  refine V.rec_ (P := fun v => ∀ {x H} {m : Nat} {K : Int → Heap → Prop}, VIs H v x → VB v → m ≤ 1000 → (∀ r : Nat, r ≤ m + 1 → r ≤ dep v → (r = dep v ∨ m + 1 ≤ r) → K r H) → c_value_depth C x m K H) (fun v ih => ?_) v hv hB hm k
  clear hv hB hm k m
  intro x H m K hv hB hm k
  apply c_value_depth.gh
  apply ad_value_depth
  unfold sh_value_depth
  intro b1 n1
  have hr := hv.row
  have hl := hr.len
  have hbl := hB.l
  have hde := dep_eq v
  have hb1 : (H.put b1 (.row (T_api_Value.c x))) b1 = some (true, .row (T_api_Value.c x)) := Heap.put_same ..
  refine ⟨fun y H' => H.le H' ∧ ∃ r : Nat, y = (r : Int) ∧ r ≤ m ∧ r ≤ deps v.l ∧ (r = deps v.l ∨ m ≤ r), ?_, ?_⟩
  rotate_left
  · rintro y H' ⟨hle, r, rfl, h0, h1, h2⟩
    rw [w_i64 (by omega) (by omega)]
    have := k (r + 1) (by omega) (by omega) (by omega)
    exact ⟨H, Gh.le hle, by simpa using this⟩
  refine bxL hb1 ?_
  refine ⟨fun y H' => ∃ i r : Nat, y = ((r : Int), (i : Int)) ∧ i ≤ v.l.length ∧ H.le H' ∧ r ≤ m ∧ r ≤ deps (v.l.take i) ∧ (r = deps (v.l.take i) ∨ m ≤ r), fun y _ => v.l.length - y.2.toNat, ⟨0, 0, rfl, Nat.zero_le _, Heap.le_put n1, Nat.zero_le _, Nat.zero_le _, .inl (by simp [deps])⟩, ?_⟩
  rintro _ H' ⟨i, r, rfl, hi, hle, hr0, hr1, hr2⟩
  have hdti : deps (v.l.take i) ≤ deps v.l := by
    have h1 := deps_append (v.l.take i) (v.l.drop i)
    rw [List.take_append_drop] at h1; omega
  dsimp only
  rw [hl]
  refine ift.of (fun h => ?_) (fun h => ?_)
  · have hlt : i < v.l.length := by have := of_decide_eq_true h; omega
    have hmem := List.getElem_mem hlt
    have hdl := deps_le hmem
    refine hr.ld hle rfl hlt fun y hy => ?_
    intro b20 n20
    refine ⟨_, Heap.put_same .., by simp [T_api_Value.c], ?_⟩
    rw [Heap.put_put]
    have esp : splice (T_api_Value.c T_api_Value.zero) (b20, 0).2 (T_api_Value.c y) = T_api_Value.c y := rfl
    rw [esp]
    have hle2 := hle.trans (Heap.le_put n20 (g := .row (T_api_Value.c y)) (m := true))
    refine ift.of (fun h => ?_) (fun h => ?_)
    · have hge : m ≤ r := by have := of_decide_eq_true h; omega
      exact ⟨hle2, r, rfl, by omega, by omega, .inr hge⟩
    · have hltm : r < m := by have := of_decide_eq_false h; omega
      refine bxV (Heap.put_same ..) ?_
      have em : w .i64 ((m : Int) - 1) = ((m - 1 : Nat) : Int) := by rw [w_i64 (by omega) (by omega)]; omega
      rw [em]
      refine ih _ hmem (hy.le hle2) (hB.at hlt) (by omega) fun q hq0 hq1 hq2 => ?_
      have hdt := deps_take hlt
      rw [w_i64 (by omega) (by omega)]
      refine ⟨⟨i + 1, max q r, ?_, by omega, hle2, by omega, by omega, ?_⟩, by first | omega | (dsimp only; omega)⟩
      · refine Prod.ext ?_ rfl
        dsimp only
        split <;> omega
      · rw [hdt]; omega
  · have hie : i = v.l.length := by have := of_decide_eq_false h; omega
    subst hie
    rw [List.take_length] at hr1 hr2
    exact ⟨hle, r, rfl, hr0, hr1, hr2⟩
end
end Sx
end

noncomputable section
set_option linter.unusedVariables false
set_option linter.unusedSimpArgs false
set_option maxRecDepth 10000
namespace Sx
open Go Go.Proofs
theorem u8eq (c : UInt8) (n : Nat) (hn : n < 256) : ((c.toNat : Int) == (n : Int)) = decide (c = UInt8.ofNat n) := by
  rw [Bool.eq_iff_iff]; simp only [decide_eq_true_eq, beq_iff_eq]
  constructor
  · intro h; exact UInt8.toNat_inj.1 (by rw [UInt8.toNat_ofNat']; omega)
  · rintro rfl; rw [UInt8.toNat_ofNat']; omega
theorem e48 (c : UInt8) : ((c.toNat : Int) == 48) = decide (c = 48) := u8eq c 48 (by omega)
theorem e45 (c : UInt8) : ((c.toNat : Int) == 45) = decide (c = 45) := u8eq c 45 (by omega)
theorem e46 (c : UInt8) : ((c.toNat : Int) == 46) = decide (c = 46) := u8eq c 46 (by omega)

theorem all_take {α : Type} {p : α → Bool} {s : List α} {i : Nat} (h : i < s.length) : (s.take (i + 1)).all p = ((s.take i).all p && p s[i]) := by
  rw [List.take_add_one, List.getElem?_eq_getElem h, Option.toList_some, List.all_append]; simp
theorem all_no {α : Type} {p : α → Bool} {s : List α} {x : α} (h : x ∈ s) (hp : p x = false) : s.all p = false := by
  rw [List.all_eq_false]; exact ⟨x, h, by simp [hp]⟩
theorem getE {s : Str} {i : Nat} (h : i < s.length) : s[((i : Nat) : Int).toNat]? = some s[i] := by simp [h]
theorem getL {s : Str} (h : 0 < s.length) {x : Int} (hx : x = (s.length : Int) - 1) : s[x.toNat]? = some (s.getLast (List.ne_nil_of_length_pos h)) := by
  subst hx
  have : ((s.length : Int) - 1).toNat = s.length - 1 := by omega
  rw [this, List.getElem?_eq_getElem (by omega), List.getLast_eq_getElem]

section
variable {C : Ctx} {H : Heap}
theorem letter_ok {c : UInt8} {K : Bool → Heap → Prop} (k : K (lowC c) H) : c_ref02_letter C (c.toNat : Int) K H := by
  apply ad_ref02_letter
  unfold sh_ref02_letter
  have : (decide ((c.toNat : Int) ≥ 97) && decide ((c.toNat : Int) ≤ 122)) = lowC c := by
    unfold lowC
    rw [Bool.eq_iff_iff]; simp only [Bool.and_eq_true, decide_eq_true_eq]; omega
  rw [this]; exact k

theorem ref02_Name_ok {s : Str} {K : Bool → Heap → Prop} (hs : s.length ≤ 140737488355328) (k : K (nameS s) H) : c_ref02_Name C s K H := by
  apply ad_ref02_Name
  unfold sh_ref02_Name
  refine ⟨fun b H' => H = H' ∧ b = (s.isEmpty || decide (s.length > 32) || !lowC (s.headD 0)), ?_, ?_⟩
  · refine ift.of (fun h => ⟨rfl, ?_⟩) (fun h => ?_)
    · simp only [Bool.or_eq_true, decide_eq_true_eq, beq_iff_eq] at h
      rcases h with rfl | h
      · rfl
      · have : decide (s.length > 32) = true := by rw [decide_eq_true_eq]; omega
        rw [this]; simp
    · cases s with
      | nil => simp at h
      | cons c t =>
        refine ⟨c, by omega, rfl, ?_⟩
        refine letter_ok ⟨rfl, ?_⟩
        simp only [Bool.or_eq_false_iff, decide_eq_false_iff_not] at h
        have : decide ((c :: t).length > 32) = false := by rw [decide_eq_false_iff_not]; omega
        rw [this]; rfl
  rintro b _ ⟨rfl, rfl⟩
  refine ift.of (fun h => ?_) (fun h => ?_)
  · have : nameS s = false := by
      unfold nameS
      simp only [Bool.or_eq_true, decide_eq_true_eq, Bool.not_eq_true'] at h
      rcases h with (h | h) | h
      · rw [h]; rfl
      · have : decide (s.length ≤ 32) = false := by rw [decide_eq_false_iff_not]; omega
        rw [this]; simp
      · rw [h]; simp
    rw [this] at k; exact k
  have hn : nameS s = s.all nameC := by
    unfold nameS
    simp only [Bool.or_eq_false_iff, decide_eq_false_iff_not, Bool.not_eq_false'] at h
    have : decide (s.length ≤ 32) = true := by rw [decide_eq_true_eq]; omega
    rw [h.1.1, this, h.2]; simp
  refine ⟨fun x H' => ∃ i : Nat, x = (i : Int) ∧ i ≤ s.length ∧ H = H' ∧ (s.take i).all nameC = true, fun x _ => s.length - x.toNat, ⟨0, rfl, Nat.zero_le _, rfl, rfl⟩, ?_⟩
  rintro x _ ⟨i, rfl, hi, rfl, ha⟩
  refine ift.of (fun h => ?_) (fun h => ?_)
  · have hlt : i < s.length := by have := of_decide_eq_true h; omega
    refine ⟨s[i], by omega, getE hlt, ?_⟩
    dsimp only
    have hm := List.getElem_mem hlt
    have hat := all_take (p := nameC) hlt
    generalize s[i] = c at *
    refine letter_ok ?_
    have e : ((((!lowC c) && (!((decide ((c.toNat : Int) ≥ 65)) && (decide ((c.toNat : Int) ≤ 90))))) && (!((decide ((c.toNat : Int) ≥ 48)) && (decide ((c.toNat : Int) ≤ 57))))) && ((c.toNat : Int) != 95)) = !nameC c := by
      unfold nameC
      have h1 : decide ((c.toNat : Int) ≥ 65) = decide (65 ≤ c.toNat) := by rw [decide_eq_decide]; omega
      have h2 : decide ((c.toNat : Int) ≤ 90) = decide (c.toNat ≤ 90) := by rw [decide_eq_decide]; omega
      have h3 : decide ((c.toNat : Int) ≥ 48) = decide (48 ≤ c.toNat) := by rw [decide_eq_decide]; omega
      have h4 : decide ((c.toNat : Int) ≤ 57) = decide (c.toNat ≤ 57) := by rw [decide_eq_decide]; omega
      have h5 : ((c.toNat : Int) != 95) = !decide (c.toNat = 95) := by
        rw [Bool.eq_iff_iff]; simp only [bne_iff_ne, ne_eq, Bool.not_eq_true', decide_eq_false_iff_not]; omega
      rw [h1, h2, h3, h4, h5]; simp only [Bool.not_or]
    rw [e]
    refine ift.of (fun h => ?_) (fun h => ?_)
    · rw [hn, all_no hm (by simpa using h)] at k; exact k
    · rw [w_i64 (by omega) (by omega)]
      refine ⟨⟨i + 1, by omega, by omega, rfl, ?_⟩, by first | omega | (dsimp only; omega)⟩
      rw [hat, ha]; simpa using h
  · have hie : i = s.length := by have := of_decide_eq_false h; omega
    rw [hie, List.take_length] at ha
    rw [hn, ha] at k; exact k

theorem value_name_ok {s : Str} {K : Bool → Heap → Prop} (hs : s.length ≤ 140737488355328) (k : K (nameS s) H) : c_value_name C s K H := by
  apply ad_value_name
  unfold sh_value_name
  refine ⟨fun b H' => H = H' ∧ b = (s.isEmpty || decide (s.length > 32) || decide ((s.headD 0).toNat < 97)), ?_, ?_⟩
  · refine ift.of (fun h => ⟨rfl, ?_⟩) (fun h => ?_)
    · simp only [Bool.or_eq_true, decide_eq_true_eq, beq_iff_eq] at h
      rcases h with rfl | h
      · rfl
      · have : decide (s.length > 32) = true := by rw [decide_eq_true_eq]; omega
        rw [this]; simp
    · cases s with
      | nil => simp at h
      | cons c t =>
        refine ⟨c, by omega, rfl, rfl, ?_⟩
        simp only [Bool.or_eq_false_iff, decide_eq_false_iff_not] at h
        have : decide ((c :: t).length > 32) = false := by rw [decide_eq_false_iff_not]; omega
        rw [this]
        simp only [List.isEmpty_cons, Bool.false_or, List.headD_cons]
        exact (decide_eq_decide.2 (by omega) : decide ((c.toNat : Int) < 97) = decide (c.toNat < 97))
  rintro b _ ⟨rfl, rfl⟩
  refine ⟨fun b H' => H = H' ∧ b = (s.isEmpty || decide (s.length > 32) || !lowC (s.headD 0)), ?_, ?_⟩
  · refine ift.of (fun h => ⟨rfl, ?_⟩) (fun h => ?_)
    · simp only [Bool.or_eq_true, decide_eq_true_eq] at h
      rcases h with (h | h) | h
      · rw [h]; rfl
      · have : decide (s.length > 32) = true := by rw [decide_eq_true_eq]; omega
        rw [this]; simp
      · have : lowC (s.headD 0) = false := by unfold lowC; rw [decide_eq_false (by omega)]; rfl
        rw [this]; simp
    · simp only [Bool.or_eq_false_iff, decide_eq_false_iff_not] at h
      cases s with
      | nil => simp at h
      | cons c t =>
        refine ⟨c, by omega, rfl, rfl, ?_⟩
        have : decide ((c :: t).length > 32) = false := by rw [decide_eq_false_iff_not]; omega
        rw [this]
        simp only [List.isEmpty_cons, Bool.false_or, List.headD_cons] at h ⊢
        unfold lowC
        rw [decide_eq_true (by omega : 97 ≤ c.toNat), Bool.true_and, ← decide_not, decide_eq_decide]; omega
  rintro b _ ⟨rfl, rfl⟩
  refine ift.of (fun h => ?_) (fun h => ?_)
  · have : nameS s = false := by
      unfold nameS
      simp only [Bool.or_eq_true, decide_eq_true_eq, Bool.not_eq_true'] at h
      rcases h with (h | h) | h
      · rw [h]; rfl
      · have : decide (s.length ≤ 32) = false := by rw [decide_eq_false_iff_not]; omega
        rw [this]; simp
      · rw [h]; simp
    rw [this] at k; exact k
  have hn : nameS s = s.all nameC := by
    unfold nameS
    simp only [Bool.or_eq_false_iff, decide_eq_false_iff_not, Bool.not_eq_false'] at h
    have : decide (s.length ≤ 32) = true := by rw [decide_eq_true_eq]; omega
    rw [h.1.1, this, h.2]; simp
  refine ⟨fun x H' => ∃ i : Nat, x = (i : Int) ∧ i ≤ s.length ∧ H = H' ∧ (s.take i).all nameC = true, fun x _ => s.length - x.toNat, ⟨0, rfl, Nat.zero_le _, rfl, rfl⟩, ?_⟩
  rintro x _ ⟨i, rfl, hi, rfl, ha⟩
  refine ift.of (fun h => ?_) (fun h => ?_)
  · have hlt : i < s.length := by have := of_decide_eq_true h; omega
    refine ⟨s[i], by omega, getE hlt, ?_⟩
    dsimp only
    have hm := List.getElem_mem hlt
    have hat := all_take (p := nameC) hlt
    generalize s[i] = c at *
    have e : (!(((((decide ((c.toNat : Int) ≥ 97)) && (decide ((c.toNat : Int) ≤ 122))) || ((decide ((c.toNat : Int) ≥ 65)) && (decide ((c.toNat : Int) ≤ 90)))) || ((decide ((c.toNat : Int) ≥ 48)) && (decide ((c.toNat : Int) ≤ 57)))) || ((c.toNat : Int) == 95))) = !nameC c := by
      unfold nameC lowC
      have h0 : decide ((c.toNat : Int) ≥ 97) = decide (97 ≤ c.toNat) := by rw [decide_eq_decide]; omega
      have h01 : decide ((c.toNat : Int) ≤ 122) = decide (c.toNat ≤ 122) := by rw [decide_eq_decide]; omega
      have h1 : decide ((c.toNat : Int) ≥ 65) = decide (65 ≤ c.toNat) := by rw [decide_eq_decide]; omega
      have h2 : decide ((c.toNat : Int) ≤ 90) = decide (c.toNat ≤ 90) := by rw [decide_eq_decide]; omega
      have h3 : decide ((c.toNat : Int) ≥ 48) = decide (48 ≤ c.toNat) := by rw [decide_eq_decide]; omega
      have h4 : decide ((c.toNat : Int) ≤ 57) = decide (c.toNat ≤ 57) := by rw [decide_eq_decide]; omega
      have h5 : ((c.toNat : Int) == 95) = decide (c.toNat = 95) := by
        rw [Bool.eq_iff_iff]; simp only [beq_iff_eq, decide_eq_true_eq]; omega
      rw [h0, h01, h1, h2, h3, h4, h5]
    rw [e]
    refine ift.of (fun h => ?_) (fun h => ?_)
    · rw [hn, all_no hm (by simpa using h)] at k; exact k
    · rw [w_i64 (by omega) (by omega)]
      refine ⟨⟨i + 1, by omega, by omega, rfl, ?_⟩, by first | omega | (dsimp only; omega)⟩
      rw [hat, ha]; simpa using h
  · have hie : i = s.length := by have := of_decide_eq_false h; omega
    rw [hie, List.take_length] at ha
    rw [hn, ha] at k; exact k

theorem take_no {s : Str} {i : Nat} (h : i < s.length) (h1 : (46 : UInt8) ∉ s.take i) (h2 : s[i] ≠ 46) : (46 : UInt8) ∉ s.take (i + 1) := by
  rw [List.take_add_one, List.getElem?_eq_getElem h, Option.toList_some, List.mem_append]
  rintro (hh | hh)
  · exact h1 hh
  · exact h2 (List.mem_singleton.1 hh).symm
theorem split_at {s : Str} {i : Nat} (h : i < s.length) : s = s.take i ++ s[i] :: s.drop (i + 1) := by
  rw [← List.drop_eq_getElem_cons h, List.take_append_drop]

theorem ref02_Names_ok {s : Str} {K : Bool → Heap → Prop} (hs : s.length ≤ 140737488355328) (k : K (namesS s) H) : c_ref02_Names C s K H := by
  apply ad_ref02_Names
  unfold sh_ref02_Names
  unfold namesS at k
  refine ift.of (fun h => ?_) (fun h => ?_)
  · simp only [Bool.or_eq_true, beq_iff_eq] at h
    rw [if_pos (show s = trueS ∨ s = falseS from h)] at k; exact k
  simp only [Bool.or_eq_false_iff, beq_eq_false_iff_ne, ne_eq] at h
  rw [if_neg (show ¬ (s = trueS ∨ s = falseS) from fun hh => hh.elim h.1 h.2)] at k
  refine ⟨fun x H' => ∃ i : Nat, x = (i : Int) ∧ i ≤ s.length ∧ H = H' ∧ (46 : UInt8) ∉ s.take i, fun x _ => s.length - x.toNat, ⟨0, rfl, Nat.zero_le _, rfl, by simp⟩, ?_⟩
  rintro x _ ⟨i, rfl, hi, rfl, hno⟩
  refine ift.of (fun h => ?_) (fun h => ?_)
  · have hlt : i < s.length := by have := of_decide_eq_true h; omega
    refine ⟨s[i], by omega, getE hlt, ?_⟩
    dsimp only
    rw [e46]
    refine ift.of (fun h => ?_) (fun h => ?_)
    · have hc : s[i] = 46 := of_decide_eq_true h
      have hsp := split_at hlt
      rw [hc] at hsp
      have hcut := cutD_at (s.take i) (s.drop (i + 1)) hno
      rw [← hsp] at hcut
      rw [hcut] at k
      dsimp only at k
      refine ⟨by omega, by omega, by omega, _, rfl, ?_⟩
      have e1 : (s.take ((i : Int)).toNat).drop (0 : Int).toNat = s.take i := by simp
      rw [e1]
      refine ref02_Name_ok (by simp; omega) ?_
      refine ⟨fun b H' => H = H' ∧ b = (nameS (s.take i) && nameS (s.drop (i + 1))), ?_, ?_⟩
      · refine ift.of (fun h => ?_) (fun h => ⟨rfl, by rw [h]; rfl⟩)
        rw [w_i64 (by omega) (by omega)]
        refine ⟨by omega, by omega, by omega, _, rfl, ?_⟩
        have e2 : (s.take ((s.length : Int)).toNat).drop ((i : Int) + 1).toNat = s.drop (i + 1) := by
          have : ((i : Int) + 1).toNat = i + 1 := by omega
          rw [this]; simp
        rw [e2]
        exact ref02_Name_ok (by simp; omega) ⟨rfl, by rw [h]; rfl⟩
      · rintro b _ ⟨rfl, rfl⟩
        exact k
    · have hc : s[i] ≠ 46 := of_decide_eq_false h
      rw [w_i64 (by omega) (by omega)]
      exact ⟨⟨i + 1, by omega, by omega, rfl, take_no hlt hno hc⟩, by first | omega | (dsimp only; omega)⟩
  · have hie : i = s.length := by have := of_decide_eq_false h; omega
    rw [hie, List.take_length] at hno
    rw [cutD_no s hno] at k
    exact ref02_Name_ok hs k

def numT (t : Str) : Bool := !t.isEmpty && !(decide (t.length > 1) && decide (t.head? = some 48)) && t.all digC
theorem numS_min {c : UInt8} {t : Str} : numS (45 :: c :: t) = if c = 48 then false else numT (c :: t) := by
  unfold numS numT unmin
  by_cases h : c = 48
  · subst h; simp
  · simp [h]
theorem numS_no {s : Str} (h : ¬ (s.length > 1 ∧ s.head? = some 45)) : numS s = numT s := by
  unfold numS numT unmin
  cases s with
  | nil => rfl
  | cons c t =>
    by_cases hc : c = 45
    · subst hc
      have : t = [] := by cases t with
        | nil => rfl
        | cons d u => exact absurd ⟨by simp, rfl⟩ h
      subst this; decide
    · simp only [List.head?_cons, Option.some.injEq, hc, if_false]
      by_cases h8 : c = 48
      · subst h8
        cases t with
        | nil => decide
        | cons d u => simp
      · simp [h8]

theorem ref02_Number_ok {s : Str} {K : Bool → Heap → Prop} (hs : s.length ≤ 140737488355328) (k : K (numS s) H) : c_ref02_Number C s K H := by
  apply ad_ref02_Number
  unfold sh_ref02_Number
  refine ⟨fun x H' => H = H' ∧ x.length ≤ s.length ∧ numT x = numS s, ?_, ?_⟩
  · refine ⟨fun b H' => H = H' ∧ b = decide (s.length > 1 ∧ s.head? = some 45), ?_, ?_⟩
    · refine ift.of (fun h => ?_) (fun h => ⟨rfl, ?_⟩)
      · have h1 : s.length > 1 := by have := of_decide_eq_true h; omega
        cases s with
        | nil => simp at h1
        | cons c t =>
          refine ⟨c, by omega, rfl, rfl, ?_⟩
          rw [e45, decide_eq_decide]
          simp at h1 ⊢
          exact fun _ => h1
      · have h1 := of_decide_eq_false h
        rw [eq_comm, decide_eq_false_iff_not]; omega
    rintro b _ ⟨rfl, rfl⟩
    refine ift.of (fun h => ?_) (fun h => ?_)
    · obtain ⟨h1, h2⟩ := of_decide_eq_true h
      cases s with
      | nil => simp at h1
      | cons c0 t0 =>
      obtain rfl : c0 = 45 := by simpa using h2
      cases t0 with
      | nil => simp at h1
      | cons c t =>
      refine ⟨by omega, by simp; omega, by omega, c :: t, ?_, ?_⟩
      · rw [List.take_of_length_le (by omega)]; rfl
      · refine ⟨c, by omega, rfl, ?_⟩
        dsimp only
        rw [e48]
        rw [numS_min] at k
        refine ift.of (fun h => ?_) (fun h => ?_)
        · rw [if_pos (of_decide_eq_true h)] at k; exact k
        · refine ⟨rfl, by simp, ?_⟩
          rw [numS_min, if_neg (of_decide_eq_false h)]
    · exact ⟨rfl, Nat.le_refl _, (numS_no (of_decide_eq_false h)).symm⟩
  rintro x _ ⟨rfl, hxl, hx⟩
  rw [← hx] at k
  clear hx
  refine ⟨fun b H' => H = H' ∧ b = (x.isEmpty || (decide (x.length > 1) && decide (x.head? = some 48))), ?_, ?_⟩
  · refine ift.of (fun h => ⟨rfl, ?_⟩) (fun h => ?_)
    · have : x = [] := by simpa using h
      subst this; rfl
    · refine ⟨fun b H' => H = H' ∧ b = (decide (x.length > 1) && decide (x.head? = some 48)), ?_, ?_⟩
      · refine ift.of (fun h => ?_) (fun h => ⟨rfl, ?_⟩)
        · have h1 : x.length > 1 := by have := of_decide_eq_true h; omega
          rw [decide_eq_true h1]
          cases x with
          | nil => simp at h1
          | cons c t => exact ⟨c, by omega, rfl, rfl, by rw [e48]; simp⟩
        · have h1 := of_decide_eq_false h
          rw [decide_eq_false (by omega)]; rfl
      · rintro b _ ⟨rfl, rfl⟩
        have : x.isEmpty = false := by cases x with
          | nil => simp at h
          | cons c t => rfl
        rw [this]; exact ⟨rfl, rfl⟩
  rintro b _ ⟨rfl, rfl⟩
  have hnt : numT x = (!(x.isEmpty || (decide (x.length > 1) && decide (x.head? = some 48))) && x.all digC) := by unfold numT; simp [Bool.not_or]
  refine ift.of (fun h => ?_) (fun h => ?_)
  · rw [hnt, h] at k; exact k
  rw [hnt, h, Bool.not_false, Bool.true_and] at k
  refine ⟨fun y H' => ∃ i : Nat, y = (i : Int) ∧ i ≤ x.length ∧ H = H' ∧ (x.take i).all digC = true, fun y _ => x.length - y.toNat, ⟨0, rfl, Nat.zero_le _, rfl, rfl⟩, ?_⟩
  rintro y _ ⟨i, rfl, hi, rfl, ha⟩
  refine ift.of (fun h => ?_) (fun h => ?_)
  · have hlt : i < x.length := by have := of_decide_eq_true h; omega
    have hm := List.getElem_mem hlt
    have hat := all_take (p := digC) hlt
    have hge := getE hlt
    generalize x[i] = c at *
    refine ⟨c, by omega, hge, ?_⟩
    refine ⟨fun b H' => H = H' ∧ b = !digC c, ?_, ?_⟩
    · refine ift.of (fun h => ⟨rfl, ?_⟩) (fun h => ?_)
      · have h1 := of_decide_eq_true h
        unfold digC; rw [decide_eq_false (by omega)]; rfl
      · have h1 := of_decide_eq_false h
        refine ⟨c, by omega, hge, rfl, ?_⟩
        unfold digC; rw [decide_eq_true (by omega : 48 ≤ c.toNat), Bool.true_and, ← decide_not, decide_eq_decide]; omega
    rintro b _ ⟨rfl, rfl⟩
    refine ift.of (fun h => ?_) (fun h => ?_)
    · rw [all_no hm (by simpa using h)] at k; exact k
    · rw [w_i64 (by omega) (by omega)]
      refine ⟨⟨i + 1, by omega, by omega, rfl, ?_⟩, by first | omega | (dsimp only; omega)⟩
      rw [hat, ha]; simpa using h
  · have hie : i = x.length := by have := of_decide_eq_false h; omega
    rw [hie, List.take_length] at ha
    rw [ha] at k; exact k

theorem ref02_Digits_ok {s : Str} {K : Int → Heap → Prop} (hs : s.length ≤ 140737488355328) (hn : numS s = true) (k : K (digits s) H) : c_ref02_Digits C s K H := by
  apply ad_ref02_Digits
  unfold sh_ref02_Digits
  cases s with
  | nil => simp [numS, unmin] at hn
  | cons c t =>
    refine ⟨c, by omega, rfl, ?_⟩
    dsimp only
    rw [e45]
    unfold digits unmin at k
    refine ift.of (fun h => ?_) (fun h => ?_)
    · have hc : c = 45 := of_decide_eq_true h
      rw [if_pos (by rw [hc]; rfl)] at k
      simp at hs
      rw [w_i64 (by simp only [List.length_cons]; omega) (by simp only [List.length_cons]; omega)]
      simpa using k
    · rw [if_neg (by simpa using of_decide_eq_false h)] at k; exact k
end
end Sx
end

noncomputable section
set_option linter.unusedVariables false
set_option linter.unusedSimpArgs false
set_option maxRecDepth 10000
namespace Sx
open Go Go.Proofs
theorem index_spec (c : UInt8) : ∀ s : Str, (Lib.indexByte s c = -1 ∧ c ∉ s) ∨ ∃ k : Nat, Lib.indexByte s c = (k : Int) ∧ ∃ a b, s = a ++ c :: b ∧ a.length = k ∧ c ∉ a
  | [] => .inl ⟨rfl, by simp⟩
  | b :: s => by
    unfold Lib.indexByte
    by_cases h : b = c
    · subst h
      exact .inr ⟨0, by simp, [], s, rfl, rfl, by simp⟩
    · have hb : (b == c) = false := by simpa using h
      rw [hb]
      rcases index_spec c s with ⟨h1, h2⟩ | ⟨k, h1, a, d, h2, h3, h4⟩
      · left
        rw [h1]
        refine ⟨by simp, by simp [h2, Ne.symm h]⟩
      · right
        refine ⟨k + 1, ?_, b :: a, d, by rw [h2]; rfl, by simp [h3], by simp [h4, Ne.symm h]⟩
        rw [h1]
        have : ((k : Int) == -1) = false := by rw [beq_eq_false_iff_ne]; omega
        simp [this]

def setD (cs : List Value) (l : Str) : List Value := l.foldl (fun cs c => cs.set c.toNat (.bool true)) cs
def setD0 : List Value := List.replicate 256 (.bool false)
def digS : Str := [48, 49, 50, 51, 52, 53, 54, 55, 56, 57]
theorem setD_len (l : Str) : ∀ cs, (setD cs l).length = cs.length := by
  induction l with
  | nil => intro cs; rfl
  | cons c l ih => intro cs; simp only [setD, List.foldl_cons] at ih ⊢; rw [ih]; simp
theorem setD_snoc (l : Str) (c : UInt8) (cs : List Value) : setD cs (l ++ [c]) = (setD cs l).set c.toNat (.bool true) := by simp [setD]
theorem setD_b (l : Str) : ∀ cs : List Value, cs.all Value.oneCell' = true → (setD cs l).all Value.oneCell' = true := by
  induction l with
  | nil => intro cs h; exact h
  | cons c l ih =>
    intro cs h
    simp only [setD, List.foldl_cons] at ih ⊢
    refine ih _ ?_
    rw [List.all_eq_true] at h ⊢
    intro x hx
    rcases List.mem_or_eq_of_mem_set hx with hx | rfl
    · exact h x hx
    · rfl
theorem setD_get : ∀ n : Nat, n < 256 → (match (setD setD0 digS)[n]? with | some (.bool b) => b == (decide (48 ≤ n) && decide (n ≤ 57)) | _ => false) = true := by decide +kernel
theorem setD_dig (c : UInt8) : (setD setD0 digS)[c.toNat]? = some (.bool (digC c)) := by
  have h := setD_get c.toNat c.toBitVec.isLt
  unfold digC
  generalize (setD setD0 digS)[c.toNat]? = o at *
  cases o with
  | none => simp at h
  | some v => cases v <;> simp at h ⊢; exact h

section
variable {C : Ctx} {H : Heap}
theorem hasPrefix_ok {s p : Str} {K : Bool → Heap → Prop} (k : K (p.isPrefixOf s) H) : c_internal_stringslite_HasPrefix C s p K H := by
  apply ad_internal_stringslite_HasPrefix
  unfold sh_internal_stringslite_HasPrefix
  refine ⟨fun b H' => H = H' ∧ b = p.isPrefixOf s, ?_, ?_⟩
  · refine ift.of (fun h => ?_) (fun h => ⟨rfl, ?_⟩)
    · have hl : p.length ≤ s.length := by have := of_decide_eq_true h; omega
      refine ⟨by omega, by omega, by omega, s.take p.length, by simp, rfl, ?_⟩
      rw [Bool.eq_iff_iff, List.isPrefixOf_iff_prefix, beq_iff_eq, List.prefix_iff_eq_take]
      exact ⟨fun h => h.symm, fun h => h.symm⟩
    · have hl := of_decide_eq_false h
      cases hh : p.isPrefixOf s with
      | false => rfl
      | true =>
        have := (List.isPrefixOf_iff_prefix.1 hh).length_le
        omega
  · rintro b _ ⟨rfl, rfl⟩
    exact k
theorem trimPrefix_ok {s p : Str} {K : Str → Heap → Prop} (k : K (if p.isPrefixOf s then s.drop p.length else s) H) : c_strings_TrimPrefix C s p K H := by
  apply ad_strings_TrimPrefix
  unfold sh_strings_TrimPrefix
  apply ad_internal_stringslite_TrimPrefix
  unfold sh_internal_stringslite_TrimPrefix
  refine hasPrefix_ok ?_
  refine ift.of (fun h => ?_) (fun h => ?_)
  · rw [if_pos h] at k
    have := (List.isPrefixOf_iff_prefix.1 h).length_le
    exact ⟨by omega, by omega, by omega, _, by simp, k⟩
  · rw [if_neg (by rw [h]; decide)] at k; exact k

theorem cutDot_ok {s : Str} {K : Str → Str → Bool → Heap → Prop} (hs : s.length ≤ 140737488355328) (k : match cutD s with | some (a, b) => K a b true H | none => K s [] false H) : c_strings_Cut C s [46] K H := by
  apply ad_strings_Cut
  unfold sh_strings_Cut
  apply ad_internal_stringslite_Cut
  unfold sh_internal_stringslite_Cut
  have key : ∀ {K : Int → Heap → Prop}, K (Lib.indexByte s 46) H → c_internal_stringslite_Index C s [46] K H := by
    intro K k
    apply ad_internal_stringslite_Index
    unfold sh_internal_stringslite_Index
    refine ift.of (fun h => ?_) (fun h => ?_)
    · have hs : [46] = s := by simpa using h
      subst hs
      exact k
    · refine ift_pos rfl ⟨46, by omega, rfl, ?_⟩
      apply ad_internal_stringslite_IndexByte
      unfold sh_internal_stringslite_IndexByte
      exact k
  refine key ?_
  rcases index_spec 46 s with ⟨h1, h2⟩ | ⟨i, h1, a, b, h2, h3, h4⟩
  · rw [h1]
    rw [cutD_no s h2] at k
    exact ift_neg rfl k
  · rw [h1]
    subst h2
    rw [cutD_at a b h4] at k
    subst h3
    simp only [List.length_append, List.length_cons] at hs
    refine ift_pos (by rw [decide_eq_true_eq]; omega) ?_
    refine ⟨by omega, by omega, by simp; omega, a, by simp, ?_⟩
    have e1 : (([46] : Str).length : Int) = 1 := rfl
    rw [e1, w_i64 (by omega) (by omega)]
    refine ⟨by omega, by simp; omega, by omega, b, ?_, k⟩
    have e2 : ((a.length : Int) + 1).toNat = a.length + 1 := by omega
    rw [List.take_of_length_le (by omega), e2, List.drop_append]
    simp

/-- the set of digits -/
def DSet (H : Heap) (b : Nat) : Prop := H b = some (true, .row (setD setD0 digS))
theorem contains_ok {b : Nat} {c : UInt8} {K : Bool → Heap → Prop} (h : DSet H b) (k : K (digC c) H) : c_strings_asciiSet_contains C (some (b, 0)) (c.toNat : Int) K H := by
  apply ad_strings_asciiSet_contains
  unfold sh_strings_asciiSet_contains
  refine ⟨(b, 0), rfl, by omega, by have := c.toBitVec.isLt; have : c.toNat < 256 := this; omega, digC c, ?_, k⟩
  rw [rd_row h]
  have := setD_dig c
  simpa using this
theorem trimR_ok {b : Nat} {s : Str} {K : Str → Heap → Prop} (hs : s.length ≤ 140737488355328) (h : DSet H b) (k : ∀ t, t.length ≤ s.length → t.all digC = s.all digC → K t H) : c_strings_trimRightASCII C s (some (b, 0)) K H := by
  apply ad_strings_trimRightASCII
  unfold sh_strings_trimRightASCII
  refine ⟨fun t H' => H = H' ∧ t.length ≤ s.length ∧ t.all digC = s.all digC, ?_, ?_⟩
  rotate_left
  · rintro t _ ⟨rfl, h1, h2⟩
    exact k t h1 h2
  refine ⟨fun t H' => H = H' ∧ t.length ≤ s.length ∧ t.all digC = s.all digC, fun t _ => t.length, ⟨rfl, Nat.le_refl _, rfl⟩, ?_⟩
  rintro t _ ⟨rfl, h1, h2⟩
  refine ift.of (fun hh => ?_) (fun hh => ⟨rfl, h1, h2⟩)
  have hl : 0 < t.length := by have := of_decide_eq_true hh; omega
  have hne := List.ne_nil_of_length_pos hl
  have hd : t.dropLast ++ [t.getLast hne] = t := List.dropLast_concat_getLast hne
  rw [w_i64 (by omega) (by omega)]
  refine ⟨t.getLast hne, by omega, getL hl rfl, ?_⟩
  refine contains_ok h ?_
  refine ift.of (fun hc => ⟨rfl, h1, h2⟩) (fun hc => ?_)
  have e1 : (t.take ((t.length : Int) - 1).toNat).drop (0 : Int).toNat = t.dropLast := by
    have : ((t.length : Int) - 1).toNat = t.length - 1 := by omega
    rw [this, List.dropLast_eq_take]; simp
  refine ⟨by omega, by omega, by omega, _, e1.symm, ?_⟩
  have hdl := List.length_dropLast (xs := t)
  refine ⟨⟨rfl, by omega, ?_⟩, by dsimp only; omega⟩
  rw [← h2]
  conv => rhs; rw [← hd]
  rw [List.all_append]
  simp at hc
  simp [hc]
theorem trimL_ok {b : Nat} {s : Str} {K : Str → Heap → Prop} (hs : s.length ≤ 140737488355328) (h : DSet H b) (k : ∀ t, t.all digC = s.all digC → (t = [] ∨ t.all digC = false) → K t H) : c_strings_trimLeftASCII C s (some (b, 0)) K H := by
  apply ad_strings_trimLeftASCII
  unfold sh_strings_trimLeftASCII
  refine ⟨fun t H' => H = H' ∧ t.all digC = s.all digC ∧ (t = [] ∨ t.all digC = false), ?_, ?_⟩
  rotate_left
  · rintro t _ ⟨rfl, h1, h2⟩
    exact k t h1 h2
  refine ⟨fun t H' => H = H' ∧ t.length ≤ s.length ∧ t.all digC = s.all digC, fun t _ => t.length, ⟨rfl, Nat.le_refl _, rfl⟩, ?_⟩
  rintro t _ ⟨rfl, h1, h2⟩
  cases t with
  | nil => exact ift_neg rfl ⟨rfl, h2, .inl rfl⟩
  | cons c t =>
    refine ift_pos (by rw [decide_eq_true_eq]; simp only [List.length_cons]; omega) ?_
    refine ⟨c, by omega, rfl, ?_⟩
    refine contains_ok h ?_
    refine ift.of (fun hc => ⟨rfl, h2, .inr ?_⟩) (fun hc => ?_)
    · simp at hc; simp [hc]
    · refine ⟨by omega, by simp only [List.length_cons]; omega, by omega, t, ?_, ⟨rfl, by simp only [List.length_cons] at h1; omega, ?_⟩, by simp⟩
      · rw [List.take_of_length_le (by omega)]; rfl
      · rw [← h2]; simp at hc; simp [hc]

theorem makeDigits_ok {K : List Value → Bool → Heap → Prop} (k : K (setD setD0 digS) true H) : c_strings_makeASCIISet C digS K H := by
  apply c_strings_makeASCIISet.gh
  apply ad_strings_makeASCIISet
  unfold sh_strings_makeASCIISet
  intro b n
  refine ⟨fun x H' => ∃ i : Nat, x = (i : Int) ∧ i ≤ 10 ∧ H' = H.put b (.row (setD setD0 (digS.take i))), fun x _ => 10 - x.toNat, ⟨0, rfl, by omega, rfl⟩, ?_⟩
  rintro x _ ⟨i, rfl, hi, rfl⟩
  have hlen : (setD setD0 (digS.take i)).length = 256 := by rw [setD_len]; simp [setD0]
  refine ift.of (fun h => ?_) (fun h => ?_)
  · have hlt : i < digS.length := by have := of_decide_eq_true h; omega
    have hlt' : i < 10 := hlt
    refine ⟨digS[i], by omega, getE hlt, ?_⟩
    have hm : ∀ c ∈ digS, c.toNat < 128 := by decide
    have h128 := hm _ (List.getElem_mem hlt)
    have htk : digS.take (i + 1) = digS.take i ++ [digS[i]] := by rw [List.take_add_one, List.getElem?_eq_getElem hlt]; rfl
    generalize digS[i] = c at *
    refine ift_neg (by rw [decide_eq_false_iff_not]; omega) ?_
    refine ⟨by omega, by omega, _, Heap.put_same .., by rw [hlen]; simp; omega, ?_⟩
    rw [w_i64 (by omega) (by omega), Heap.put_put]
    refine ⟨⟨i + 1, by omega, by omega, ?_⟩, by first | omega | (dsimp only; omega)⟩
    rw [htk, setD_snoc]
    have : (b, 0).2 + (c.toNat : Int).toNat * 1 = c.toNat := by simp
    rw [this]
  · have hi10 : i = 10 := by have := of_decide_eq_false h; have : digS.length = 10 := rfl; omega
    subst hi10
    have e : digS.take 10 = digS := rfl
    rw [e] at hlen ⊢
    have hr : ∀ {B : Heap}, B b = some (true, .row (setD setD0 digS)) → rds B (b, 0) (setD setD0 digS) := fun h => rds_row h fun j v hj => by simpa using hj
    refine ⟨_, hlen, hr (Heap.put_same ..), hlen, setD_b _ _ (by decide +kernel), _, Heap.put_same .., by simp, ?_⟩
    have esp : splice (setD setD0 digS) (b, 0).2 (setD setD0 digS) = setD setD0 digS := by
      unfold splice; simp
    rw [esp, Heap.put_put]
    exact ⟨_, hlen, hr (Heap.put_same ..), H, Gh.le (Heap.le_put n), k⟩

theorem trimDig_ok {s : Str} {K : Str → Heap → Prop} (hs : s.length ≤ 140737488355328) (k : ∀ t, (t = [] ↔ s.all digC = true) → K t H) : c_strings_Trim C s digS K H := by
  apply c_strings_Trim.gh
  apply ad_strings_Trim
  unfold sh_strings_Trim
  refine ift.of (fun h => ?_) (fun h => ?_)
  · have : s = [] := by simpa [digS] using h
    subst this
    exact ⟨H, Gh.refl _, k [] (by simp)⟩
  refine ⟨fun b H' => H = H' ∧ b = false, ift_neg rfl ⟨rfl, rfl⟩, ?_⟩
  rintro _ _ ⟨rfl, rfl⟩
  refine ift_neg rfl ?_
  refine makeDigits_ok ?_
  intro b n
  have hlen : (setD setD0 digS).length = 256 := by rw [setD_len]; simp [setD0]
  refine ⟨hlen, setD_b _ _ (by decide +kernel), _, Heap.put_same .., by rw [hlen]; simp, ?_⟩
  have esp : splice (List.replicate 256 (.bool false : Value)) (b, 0).2 (setD setD0 digS) = setD setD0 digS := by
    unfold splice; simp [hlen]
  rw [esp, Heap.put_put]
  refine ift_pos rfl ?_
  refine trimR_ok hs (Heap.put_same ..) fun t ht1 ht2 => ?_
  refine trimL_ok (by omega) (Heap.put_same ..) fun u hu1 hu2 => ?_
  refine ⟨H, Gh.le (Heap.le_put n), k u ?_⟩
  rw [← ht2, ← hu1]
  constructor
  · rintro rfl; rfl
  · intro h
    rcases hu2 with h2 | h2
    · exact h2
    · rw [h] at h2; cases h2

theorem value_number_ok {s : Str} {K : Int → Bool → Heap → Prop} (hs : s.length ≤ 140737488355328) (k : K (if numS s then (digits s : Int) else 0) (numS s) H) : c_value_number C s K H := by
  apply ad_value_number
  unfold sh_value_number
  refine trimPrefix_ok ?_
  have e : (if ([45] : Str).isPrefixOf s then s.drop ([45] : Str).length else s) = unmin s := by
    unfold unmin
    cases s with
    | nil => rfl
    | cons c t =>
      by_cases hc : c = 45
      · subst hc; simp [List.isPrefixOf]
      · simp [List.isPrefixOf, hc, Ne.symm hc]
  rw [e]
  have hul : (unmin s).length ≤ s.length := by unfold unmin; split <;> simp
  have hdg : digits s = (unmin s).length := rfl
  have hnu : numS s = (!(unmin s).isEmpty && (unmin s).all digC && !(decide ((unmin s).head? = some 48) && decide (s ≠ [48]))) := rfl
  rw [hdg, hnu] at k
  clear hdg hnu e
  generalize unmin s = d at *
  refine ⟨fun b H' => H = H' ∧ b = !(!d.isEmpty && d.all digC), ?_, ?_⟩
  · refine ift.of (fun h => ⟨rfl, ?_⟩) (fun h => ?_)
    · have : d = [] := by simpa using h
      subst this; rfl
    · have hne : d ≠ [] := by simpa using h
      refine trimDig_ok (by omega) fun t ht => ⟨rfl, ?_⟩
      have he : d.isEmpty = false := by cases d with
        | nil => exact absurd rfl hne
        | cons _ _ => rfl
      rw [he]
      cases hd : d.all digC with
      | true => rw [ht.2 hd]; rfl
      | false =>
        have : t ≠ [] := fun e => by rw [ht.1 e] at hd; cases hd
        simpa using this
  rintro b _ ⟨rfl, rfl⟩
  refine ⟨fun b H' => H = H' ∧ b = !(!d.isEmpty && d.all digC && !(decide (d.head? = some 48) && decide (s ≠ [48]))), ?_, ?_⟩
  · refine ift.of (fun h => ⟨rfl, ?_⟩) (fun h => ?_)
    · simp only [Bool.not_eq_true'] at h
      rw [h]; rfl
    · simp only [Bool.not_eq_false'] at h
      rw [h]
      cases d with
      | nil => simp at h
      | cons c t =>
        refine ⟨c, by omega, rfl, rfl, ?_⟩
        rw [e48]
        simp only [List.head?_cons, Option.some.injEq, Bool.true_and, Bool.not_not]
        congr 1
        rw [decide_not]; congr 1
        rw [Bool.eq_iff_iff]; simp
  rintro b _ ⟨rfl, rfl⟩
  refine ift.of (fun h => ?_) (fun h => ?_)
  · simp only [Bool.not_eq_true'] at h
    rw [h] at k; exact k
  · simp only [Bool.not_eq_false'] at h
    rw [h] at k; exact k
end
end Sx
end

noncomputable section
set_option linter.unusedVariables false
set_option linter.unusedSimpArgs false
set_option maxRecDepth 10000
namespace Sx
open Go Go.Proofs
section
variable {C : Ctx} {H : Heap}
theorem sEmpty {s : Str} : (s == ([] : Str)) = s.isEmpty := by cases s <;> rfl
theorem lenZ {l : List V} {n : Nat} (h : n = l.length) (m : Nat) : ((n : Int) == (m : Int)) = decide (l.length = m) := by
  rw [Bool.eq_iff_iff]; simp only [beq_iff_eq, decide_eq_true_eq]; omega

theorem ref02_form_ok {v : V} {x : TV} {H : Heap} {K : Bool → Heap → Prop} (hv : VIs H v x) (hB : VB v) (k : K (formV v) H) : c_ref02_form C x K H := by
  refine V.rec_ (P := fun v => ∀ {x H} {K : Bool → Heap → Prop}, VIs H v x → VB v → K (formV v) H → c_ref02_form C x K H) (fun v ih => ?_) v hv hB k
  clear hv hB k
  intro x H K hv hB k
  apply c_ref02_form.gh
  apply ad_ref02_form
  unfold sh_ref02_form
  intro b1 n1
  have hr := hv.row
  have hl := hr.len
  have hbl := hB.l
  have hbs := hB.s
  have hk := hv.kind
  have hn := hv.num
  have ht := hv.txt
  have hb1 : (H.put b1 (.row (T_api_Value.c x))) b1 = some (true, .row (T_api_Value.c x)) := Heap.put_same ..
  have hle1 := Heap.le_put n1 (g := .row (T_api_Value.c x)) (m := true)
  generalize H.put b1 (.row (T_api_Value.c x)) = H1 at *
  refine ⟨fun b H' => H1 = H' ∧ b = okN v.k v.n v.s v.l.length, ?_, ?_⟩
  rotate_left
  · rintro b _ ⟨rfl, rfl⟩
    refine ⟨fun y H' => ∃ i : Nat, y.2 = (i : Int) ∧ i ≤ v.l.length ∧ H1 = H' ∧ (y.1 = true → okN v.k v.n v.s v.l.length = true ∧ formVs (v.l.take i) = true) ∧ (y.1 = false → formV v = false), fun y _ => v.l.length - y.2.toNat, ⟨0, rfl, Nat.zero_le _, rfl, fun h => ⟨h, rfl⟩, fun h => by dsimp only at h; rw [formV_eq, h]; rfl⟩, ?_⟩
    rintro ⟨f, y⟩ _ ⟨i, hy, hi, rfl, h1, h2⟩
    dsimp only at hy h1 h2
    subst hy
    refine bxL hb1 ?_
    rw [hl]
    refine ift.of (fun h => ?_) (fun h => ?_)
    · simp only [Bool.and_eq_true, decide_eq_true_eq] at h
      have hlt : i < v.l.length := by omega
      obtain ⟨h3, h4⟩ := h1 h.2
      have hmem := List.getElem_mem hlt
      refine bxL hb1 ?_
      refine hr.ld hle1 rfl hlt fun z hz => ?_
      refine ih _ hmem (hz.le hle1) (hB.at hlt) ?_
      dsimp only
      rw [w_i64 (by omega) (by omega)]
      refine ⟨⟨i + 1, by omega, by omega, rfl, fun hf => ⟨h3, ?_⟩, fun hf => ?_⟩, by first | omega | (dsimp only; omega)⟩
      · rw [formVs_take hlt, h4]; exact hf
      · rw [formV_eq, formVs_false hmem hf, Bool.and_false]
    · dsimp only
      refine ⟨H, Gh.le hle1, ?_⟩
      cases hf : f with
      | false => rw [h2 hf] at k; exact k
      | true =>
        rw [hf] at h
        simp only [Bool.and_true, decide_eq_false_iff_not] at h
        have hie : i = v.l.length := by omega
        subst hie
        obtain ⟨h3, h4⟩ := h1 hf
        rw [List.take_length] at h4
        rw [formV_eq, h3, h4] at k; exact k
  refine bxK hb1 ?_
  rw [hk]
  unfold okN
  refine ift.of (fun h => ?_) (fun h => ?_)
  · have h : v.k = 1 := by simpa using h
    rw [if_pos h]
    refine bxN hb1 ?_
    refine ⟨fun b H' => H1 = H' ∧ b = (v.n == 0 || v.n == 1), ?_, ?_⟩
    · rw [hn]
      refine ift.of (fun h => ⟨rfl, by rw [h]; rfl⟩) (fun h => ?_)
      refine bxN hb1 ⟨rfl, ?_⟩
      rw [h, hn]; rfl
    rintro _ _ ⟨rfl, rfl⟩
    refine ⟨fun b H' => H1 = H' ∧ b = ((v.n == 0 || v.n == 1) && v.s.isEmpty), ?_, ?_⟩
    · refine ift.of (fun h => ?_) (fun h => ⟨rfl, by rw [h]; rfl⟩)
      refine bxS hb1 ⟨rfl, ?_⟩
      rw [h, ht, sEmpty]; rfl
    rintro _ _ ⟨rfl, rfl⟩
    refine ⟨fun b H' => H1 = H' ∧ b = ((v.n == 0 || v.n == 1) && v.s.isEmpty && decide (v.l.length = 0)), ?_, ?_⟩
    · refine ift.of (fun h => ?_) (fun h => ⟨rfl, by rw [h]; rfl⟩)
      refine bxL hb1 ⟨rfl, ?_⟩
      rw [h]; exact lenZ hl 0
    rintro _ _ ⟨rfl, rfl⟩
    exact ⟨rfl, rfl⟩
  rw [if_neg (by simpa using h)]
  refine ift.of (fun h => ?_) (fun h => ?_)
  · have h : v.k = 2 := by simpa using h
    rw [if_pos h]
    refine bxS hb1 ?_
    refine ⟨fun b H' => H1 = H' ∧ b = (v.s.isEmpty && decide (v.l.length = 0)), ?_, ?_⟩
    · rw [ht, sEmpty]
      refine ift.of (fun h => ?_) (fun h => ⟨rfl, by rw [h]; rfl⟩)
      refine bxL hb1 ⟨rfl, ?_⟩
      rw [h]; exact lenZ hl 0
    rintro _ _ ⟨rfl, rfl⟩
    exact ⟨rfl, rfl⟩
  rw [if_neg (by simpa using h)]
  refine ift.of (fun h => ?_) (fun h => ?_)
  · have h : v.k = 3 := by simpa using h
    rw [if_pos h]
    refine bxN hb1 ?_
    refine ⟨fun b H' => H1 = H' ∧ b = (v.n == 0 && decide (v.l.length = 0)), ?_, ?_⟩
    · rw [hn]
      refine ift.of (fun h => ?_) (fun h => ⟨rfl, by rw [h]; rfl⟩)
      refine bxL hb1 ⟨rfl, ?_⟩
      rw [h]; exact lenZ hl 0
    rintro _ _ ⟨rfl, rfl⟩
    refine ⟨fun b H' => H1 = H' ∧ b = (numS v.s && v.n == 0 && decide (v.l.length = 0)), ?_, ?_⟩
    · refine ift.of (fun h => ?_) (fun h => ⟨rfl, ?_⟩)
      · refine bxS hb1 ?_
        rw [ht]
        refine ref02_Number_ok hbs ⟨rfl, ?_⟩
        rw [Bool.and_assoc, h, Bool.and_true]
      · rw [Bool.and_assoc, h, Bool.and_false]
    rintro _ _ ⟨rfl, rfl⟩
    exact ⟨rfl, rfl⟩
  rw [if_neg (by simpa using h)]
  refine ift.of (fun h => ?_) (fun h => ?_)
  · have h : v.k = 4 := by simpa using h
    rw [if_pos h]
    refine bxN hb1 ?_
    refine ⟨fun b H' => H1 = H' ∧ b = (v.n == 0 && decide (v.l.length = 0)), ?_, ?_⟩
    · rw [hn]
      refine ift.of (fun h => ?_) (fun h => ⟨rfl, by rw [h]; rfl⟩)
      refine bxL hb1 ⟨rfl, ?_⟩
      rw [h]; exact lenZ hl 0
    rintro _ _ ⟨rfl, rfl⟩
    exact ⟨rfl, rfl⟩
  rw [if_neg (by simpa using h)]
  refine ift.of (fun h => ?_) (fun h => ?_)
  · have h : v.k = 5 := by simpa using h
    rw [if_pos h]
    refine bxN hb1 ?_
    refine ⟨fun b H' => H1 = H' ∧ b = (v.n == 0 && v.s.isEmpty), ?_, ?_⟩
    · rw [hn]
      refine ift.of (fun h => ?_) (fun h => ⟨rfl, by rw [h]; rfl⟩)
      refine bxS hb1 ⟨rfl, ?_⟩
      rw [h, ht, sEmpty]; rfl
    rintro _ _ ⟨rfl, rfl⟩
    refine ⟨fun b H' => H1 = H' ∧ b = (v.n == 0 && v.s.isEmpty && decide (v.l.length ≠ 1)), ?_, ?_⟩
    · refine ift.of (fun h => ?_) (fun h => ⟨rfl, by rw [h]; rfl⟩)
      refine bxL hb1 ⟨rfl, ?_⟩
      rw [h, bne, show ((x.L.len : Int) == 1) = decide (v.l.length = 1) from lenZ hl 1, decide_not]; rfl
    rintro _ _ ⟨rfl, rfl⟩
    exact ⟨rfl, rfl⟩
  rw [if_neg (by simpa using h)]
  refine ift.of (fun h => ?_) (fun h => ?_)
  · have h : v.k = 6 := by simpa using h
    rw [if_pos h]
    refine bxN hb1 ?_
    refine ⟨fun b H' => H1 = H' ∧ b = (v.n == 0 && namesS v.s), ?_, ?_⟩
    · rw [hn]
      refine ift.of (fun h => ?_) (fun h => ⟨rfl, by rw [h]; rfl⟩)
      refine bxS hb1 ?_
      rw [ht]
      refine ref02_Names_ok hbs ⟨rfl, ?_⟩
      rw [h]; rfl
    rintro _ _ ⟨rfl, rfl⟩
    exact ⟨rfl, rfl⟩
  rw [if_neg (by simpa using h)]
  exact ⟨rfl, rfl⟩

theorem okN_num {k n : Int} {s : Str} {m : Nat} (h : okN k n s m = true) (hk : k = 3) : numS s = true := by
  unfold okN at h
  rw [if_neg (by omega), if_neg (by omega), if_pos hk] at h
  simp only [Bool.and_eq_true] at h
  exact h.1.1

theorem ref02_fits_ok {v : V} {x : TV} {H : Heap} {K : Bool → Heap → Prop} (hv : VIs H v x) (hB : VB v) (hF : formV v = true) (k : K (fitsV v) H) : c_ref02_fits C x K H := by
  refine V.rec_ (P := fun v => ∀ {x H} {K : Bool → Heap → Prop}, VIs H v x → VB v → formV v = true → K (fitsV v) H → c_ref02_fits C x K H) (fun v ih => ?_) v hv hB hF k
  clear hv hB hF k
  intro x H K hv hB hF k
  apply c_ref02_fits.gh
  apply ad_ref02_fits
  unfold sh_ref02_fits
  intro b1 n1
  have hr := hv.row
  have hl := hr.len
  have hbl := hB.l
  have hbs := hB.s
  have hk := hv.kind
  have hn := hv.num
  have ht := hv.txt
  rw [formV_eq, Bool.and_eq_true] at hF
  have hb1 : (H.put b1 (.row (T_api_Value.c x))) b1 = some (true, .row (T_api_Value.c x)) := Heap.put_same ..
  have hle1 := Heap.le_put n1 (g := .row (T_api_Value.c x)) (m := true)
  generalize H.put b1 (.row (T_api_Value.c x)) = H1 at *
  refine ⟨fun b H' => H1 = H' ∧ b = fitN v.k v.s v.l.length, ?_, ?_⟩
  rotate_left
  · rintro b _ ⟨rfl, rfl⟩
    refine ⟨fun y H' => ∃ i : Nat, y.2 = (i : Int) ∧ i ≤ v.l.length ∧ H1 = H' ∧ (y.1 = true → fitN v.k v.s v.l.length = true ∧ fitsVs (v.l.take i) = true) ∧ (y.1 = false → fitsV v = false), fun y _ => v.l.length - y.2.toNat, ⟨0, rfl, Nat.zero_le _, rfl, fun h => ⟨h, rfl⟩, fun h => by dsimp only at h; rw [fitsV_eq, h]; rfl⟩, ?_⟩
    rintro ⟨f, y⟩ _ ⟨i, hy, hi, rfl, h1, h2⟩
    dsimp only at hy h1 h2
    subst hy
    refine bxL hb1 ?_
    rw [hl]
    refine ift.of (fun h => ?_) (fun h => ?_)
    · simp only [Bool.and_eq_true, decide_eq_true_eq] at h
      have hlt : i < v.l.length := by omega
      obtain ⟨h3, h4⟩ := h1 h.2
      have hmem := List.getElem_mem hlt
      refine bxL hb1 ?_
      refine hr.ld hle1 rfl hlt fun z hz => ?_
      refine ih _ hmem (hz.le hle1) (hB.at hlt) (formVs_mem hmem hF.2) ?_
      dsimp only
      rw [w_i64 (by omega) (by omega)]
      refine ⟨⟨i + 1, by omega, by omega, rfl, fun hf => ⟨h3, ?_⟩, fun hf => ?_⟩, by first | omega | (dsimp only; omega)⟩
      · rw [fitsVs_take hlt, h4]; exact hf
      · have h5 : fitsVs (v.l.take (i + 1)) = false := by rw [fitsVs_take hlt]; rw [hf, Bool.and_false]
        have h6 := fitsVs_append (v.l.take (i + 1)) (v.l.drop (i + 1))
        rw [List.take_append_drop, h5] at h6
        rw [fitsV_eq, h6]; simp
    · dsimp only
      refine ⟨H, Gh.le hle1, ?_⟩
      cases hf : f with
      | false => rw [h2 hf] at k; exact k
      | true =>
        rw [hf] at h
        simp only [Bool.and_true, decide_eq_false_iff_not] at h
        have hie : i = v.l.length := by omega
        subst hie
        obtain ⟨h3, h4⟩ := h1 hf
        rw [List.take_length] at h4
        rw [fitsV_eq, h3, h4] at k; exact k
  refine bxK hb1 ?_
  rw [hk]
  unfold fitN
  refine ift.of (fun h => ?_) (fun h => ?_)
  · have h : v.k = 3 := by simpa using h
    rw [if_pos h]
    refine bxS hb1 ?_
    rw [ht]
    refine ref02_Digits_ok hbs (okN_num hF.1 h) ⟨rfl, ?_⟩
    rw [decide_eq_decide]; omega
  rw [if_neg (by simpa using h)]
  refine ift.of (fun h => ?_) (fun h => ?_)
  · have h : v.k = 4 := by simpa using h
    rw [if_pos h]
    refine bxS hb1 ⟨rfl, ?_⟩
    rw [ht, decide_eq_decide]; omega
  rw [if_neg (by simpa using h)]
  refine ift.of (fun h => ?_) (fun h => ?_)
  · have h : v.k = 5 := by simpa using h
    rw [if_pos h]
    refine bxL hb1 ⟨rfl, ?_⟩
    rw [decide_eq_decide]; omega
  rw [if_neg (by simpa using h)]
  refine ift.of (fun h => ?_) (fun h => ?_)
  · have h : v.k = 6 := by simpa using h
    rw [if_pos h]
    refine bxL hb1 ⟨rfl, ?_⟩
    rw [decide_eq_decide]; omega
  rw [if_neg (by simpa using h)]
  exact ⟨rfl, rfl⟩

theorem ref02_Check_ok {v : V} {x : TV} {H : Heap} {K : Int → Heap → Prop} (hv : VIs H v x) (hB : VB v) (hs : vsize v ≤ 4611686018427387904) (k : K (checkV v) H) : c_ref02_Check C x K H := by
  apply c_ref02_Check.gh
  apply ad_ref02_Check
  unfold sh_ref02_Check
  intro b1 n1
  have hb1 : (H.put b1 (.row (T_api_Value.c x))) b1 = some (true, .row (T_api_Value.c x)) := Heap.put_same ..
  have hle1 := Heap.le_put n1 (g := .row (T_api_Value.c x)) (m := true)
  generalize H.put b1 (.row (T_api_Value.c x)) = H1 at *
  unfold checkV at k
  refine bxV hb1 (ref02_Depth_ok (hv.le hle1) hB hs ?_)
  refine ift.of (fun h => ?_) (fun h => ?_)
  · have h := of_decide_eq_true h
    rw [if_pos (by omega)] at k
    exact ⟨H, Gh.le hle1, k⟩
  have h := of_decide_eq_false h
  rw [if_neg (by omega)] at k
  refine bxV hb1 (ref02_form_ok (hv.le hle1) hB ?_)
  refine ift.of (fun h => ?_) (fun h => ?_)
  · have h : formV v = false := by simpa using h
    rw [if_pos h] at k
    exact ⟨H, Gh.le hle1, k⟩
  have hf : formV v = true := by simpa using h
  rw [if_neg (by rw [hf]; decide)] at k
  refine bxV hb1 (ref02_fits_ok (hv.le hle1) hB hf ?_)
  refine ift.of (fun h => ?_) (fun h => ?_)
  · have h : fitsV v = false := by simpa using h
    rw [if_pos h] at k
    exact ⟨H, Gh.le hle1, k⟩
  have hf : fitsV v = true := by simpa using h
  rw [if_neg (by rw [hf]; decide)] at k
  exact ⟨H, Gh.le hle1, k⟩
end
end Sx
end

noncomputable section
set_option linter.unusedVariables false
set_option linter.unusedSimpArgs false
set_option maxRecDepth 10000
namespace Sx
open Go Go.Proofs
theorem names_cut (s : Str) : namesS s = (match cutD s with | some (a, b) => nameS a && nameS b | none => nameS s && !decide (s = trueS) && !decide (s = falseS)) := by
  unfold namesS
  by_cases ht : s = trueS
  · subst ht; rfl
  by_cases hf : s = falseS
  · subst hf; rfl
  rw [if_neg (fun h => h.elim ht hf)]
  cases hc : cutD s with
  | none => simp [ht, hf]
  | some p => rfl

section
variable {C : Ctx} {H : Heap}
theorem look_ok {v : V} {x : TV} {H : Heap} {K : Bool → Bool → Heap → Prop} (hv : VIs H v x) (hB : VB v) (k : ∀ g, (formV v = true → g = fitsV v) → K (formV v) g H) : c_value_item_look C x K H := by
  refine V.rec_ (P := fun v => ∀ {x H} {K : Bool → Bool → Heap → Prop}, VIs H v x → VB v → (∀ g, (formV v = true → g = fitsV v) → K (formV v) g H) → c_value_item_look C x K H) (fun v ih => ?_) v hv hB k
  clear hv hB k
  intro x H K hv hB k
  apply c_value_item_look.gh
  apply ad_value_item_look
  unfold sh_value_item_look
  intro b1 n1
  have hr := hv.row
  have hl := hr.len
  have hbl := hB.l
  have hbs := hB.s
  have hk := hv.kind
  have hn := hv.num
  have ht := hv.txt
  have hb1 : (H.put b1 (.row (T_api_Value.c x))) b1 = some (true, .row (T_api_Value.c x)) := Heap.put_same ..
  have hle1 := Heap.le_put n1 (g := .row (T_api_Value.c x)) (m := true)
  generalize H.put b1 (.row (T_api_Value.c x)) = H1 at *
  refine bxN hb1 ?_
  refine ⟨fun b H' => H1 = H', ?_, ?_⟩
  · exact ift.of (fun _ => bxS hb1 rfl) (fun _ => rfl)
  rintro _ _ rfl
  refine ⟨fun b H' => H1 = H', ?_, ?_⟩
  · exact ift.of (fun _ => bxL hb1 rfl) (fun _ => rfl)
  rintro _ _ rfl
  refine ⟨fun b H' => H1 = H' ∧ b.1 = okN v.k v.n v.s v.l.length ∧ (b.1 = true → b.2 = fitN v.k v.s v.l.length), ?_, ?_⟩
  rotate_left
  · rintro ⟨o, g⟩ _ ⟨rfl, ho, hg⟩
    dsimp only at ho hg ⊢
    subst ho
    refine bxL hb1 ?_
    refine ⟨fun y H' => ∃ i : Nat, y.2.2 = (i : Int) ∧ i ≤ v.l.length ∧ H.le H' ∧ y.1 = (okN v.k v.n v.s v.l.length && formVs (v.l.take i)) ∧ (y.1 = true → y.2.1 = (fitN v.k v.s v.l.length && fitsVs (v.l.take i))), fun y _ => v.l.length - y.2.2.toNat, ⟨0, rfl, Nat.zero_le _, hle1, by simp [formVs], fun h => by simp [fitsVs, hg h]⟩, ?_⟩
    rintro ⟨f, g', y⟩ H2 ⟨i, hy, hi, hle, h1, h2⟩
    dsimp only at hy h1 h2
    subst hy
    dsimp only
    rw [hl]
    refine ift.of (fun h => ?_) (fun h => ?_)
    · have hlt : i < v.l.length := by have := of_decide_eq_true h; omega
      have hmem := List.getElem_mem hlt
      refine hr.ld hle rfl hlt fun z hz => ?_
      intro b20 n20
      refine ⟨_, Heap.put_same .., by simp [T_api_Value.c], ?_⟩
      rw [Heap.put_put]
      have esp : splice (T_api_Value.c T_api_Value.zero) (b20, 0).2 (T_api_Value.c z) = T_api_Value.c z := rfl
      rw [esp]
      have hle2 := hle.trans (Heap.le_put n20 (g := .row (T_api_Value.c z)) (m := true))
      refine bxV (Heap.put_same ..) ?_
      refine ih _ hmem (hz.le hle2) (hB.at hlt) fun q hq => ?_
      rw [w_i64 (by omega) (by omega)]
      refine ⟨⟨i + 1, by omega, by omega, hle2, ?_, fun hh => ?_⟩, by first | omega | (dsimp only; omega)⟩
      · rw [h1, formVs_take hlt, Bool.and_assoc]
      · rw [Bool.and_eq_true] at hh
        rw [h2 hh.1, fitsVs_take hlt, hq hh.2, Bool.and_assoc]
    · have hie : i = v.l.length := by have := of_decide_eq_false h; omega
      subst hie
      rw [List.take_length] at h1 h2
      rw [← formV_eq] at h1
      rw [← fitsV_eq] at h2
      refine ⟨H, Gh.le hle, ?_⟩
      rw [h1] at h2 ⊢
      exact k g' h2
  refine bxK hb1 ?_
  rw [hk]
  refine ift.of (fun h => ?_) (fun h => ?_)
  · have h : v.k = 1 := by simpa using h
    have eo : okN v.k v.n v.s v.l.length = ((v.n == 0 || v.n == 1) && v.s.isEmpty && decide (v.l.length = 0)) := by rw [h]; rfl
    have ef : fitN v.k v.s v.l.length = true := by rw [h]; rfl
    rw [eo, ef]
    refine bxN hb1 ?_
    refine ⟨fun b H' => H1 = H' ∧ b = (v.n == 0 || v.n == 1), ?_, ?_⟩
    · rw [hn]
      refine ift.of (fun h => ⟨rfl, by rw [h]; rfl⟩) (fun h => ?_)
      refine bxN hb1 ⟨rfl, ?_⟩
      rw [h, hn]; rfl
    rintro _ _ ⟨rfl, rfl⟩
    refine ⟨fun b H' => H1 = H' ∧ b = ((v.n == 0 || v.n == 1) && v.s.isEmpty), ?_, ?_⟩
    · refine ift.of (fun h => ?_) (fun h => ⟨rfl, by rw [h]; rfl⟩)
      refine bxS hb1 ⟨rfl, ?_⟩
      rw [h, ht, sEmpty]; rfl
    rintro _ _ ⟨rfl, rfl⟩
    refine ⟨fun b H' => H1 = H' ∧ b = ((v.n == 0 || v.n == 1) && v.s.isEmpty && decide (v.l.length = 0)), ?_, ?_⟩
    · refine ift.of (fun h => ?_) (fun h => ⟨rfl, by rw [h]; rfl⟩)
      refine bxL hb1 ⟨rfl, ?_⟩
      rw [h]; exact lenZ hl 0
    rintro _ _ ⟨rfl, rfl⟩
    exact ⟨rfl, rfl, fun _ => rfl⟩
  have g1 : v.k ≠ 1 := by simpa using h
  refine ift.of (fun h => ?_) (fun h => ?_)
  · have h : v.k = 2 := by simpa using h
    have eo : okN v.k v.n v.s v.l.length = (v.s.isEmpty && decide (v.l.length = 0)) := by rw [h]; rfl
    have ef : fitN v.k v.s v.l.length = true := by rw [h]; rfl
    rw [eo, ef]
    refine bxS hb1 ?_
    refine ⟨fun b H' => H1 = H' ∧ b = (v.s.isEmpty && decide (v.l.length = 0)), ?_, ?_⟩
    · rw [ht, sEmpty]
      refine ift.of (fun h => ?_) (fun h => ⟨rfl, by rw [h]; rfl⟩)
      refine bxL hb1 ⟨rfl, ?_⟩
      rw [h]; exact lenZ hl 0
    rintro _ _ ⟨rfl, rfl⟩
    exact ⟨rfl, rfl, fun _ => rfl⟩
  have g2 : v.k ≠ 2 := by simpa using h
  refine ift.of (fun h => ?_) (fun h => ?_)
  · have h : v.k = 3 := by simpa using h
    have eo : okN v.k v.n v.s v.l.length = (numS v.s && v.n == 0 && decide (v.l.length = 0)) := by rw [h]; rfl
    have ef : fitN v.k v.s v.l.length = decide (digits v.s ≤ 200) := by rw [h]; rfl
    rw [eo, ef]
    refine bxS hb1 ?_
    rw [ht]
    refine value_number_ok hbs ?_
    refine ⟨fun b H' => H1 = H' ∧ b = (numS v.s && v.n == 0), ?_, ?_⟩
    · refine ift.of (fun h => ?_) (fun h => ⟨rfl, by rw [h]; rfl⟩)
      refine bxN hb1 ⟨rfl, ?_⟩
      rw [h, hn]; rfl
    rintro _ _ ⟨rfl, rfl⟩
    refine ⟨fun b H' => H1 = H' ∧ b = (numS v.s && v.n == 0 && decide (v.l.length = 0)), ?_, ?_⟩
    · refine ift.of (fun h => ?_) (fun h => ⟨rfl, by rw [h]; rfl⟩)
      refine bxL hb1 ⟨rfl, ?_⟩
      rw [h]; exact lenZ hl 0
    rintro _ _ ⟨rfl, rfl⟩
    refine ⟨rfl, rfl, fun hh => ?_⟩
    dsimp only at hh ⊢
    simp only [Bool.and_eq_true] at hh
    rw [hh.1.1, if_pos rfl, decide_eq_decide]; omega
  have g3 : v.k ≠ 3 := by simpa using h
  refine ift.of (fun h => ?_) (fun h => ?_)
  · have h : v.k = 4 := by simpa using h
    have eo : okN v.k v.n v.s v.l.length = (v.n == 0 && decide (v.l.length = 0)) := by rw [h]; rfl
    have ef : fitN v.k v.s v.l.length = decide (v.s.length ≤ 4096) := by rw [h]; rfl
    rw [eo, ef]
    have ed : decide ((v.s.length : Int) ≤ 4096) = decide (v.s.length ≤ 4096) := by rw [decide_eq_decide]; omega
    refine ⟨fun b H' => H1 = H' ∧ b = ((v.n == 0 && decide (v.l.length = 0)), decide (v.s.length ≤ 4096)), ?_, ?_⟩
    · refine ⟨H1, Heap.le.refl _, bxN hb1 (bxS hb1 ?_)⟩
      rw [hn, ht, ed]
      refine ift.of (fun h => ?_) (fun h => ⟨rfl, by rw [h]; rfl⟩)
      refine bxL hb1 ⟨rfl, ?_⟩
      rw [h, show ((x.L.len : Int) == 0) = decide (v.l.length = 0) from lenZ hl 0]; rfl
    rintro _ _ ⟨rfl, rfl⟩
    exact ⟨rfl, rfl, fun _ => rfl⟩
  have g4 : v.k ≠ 4 := by simpa using h
  refine ift.of (fun h => ?_) (fun h => ?_)
  · have h : v.k = 5 := by simpa using h
    have eo : okN v.k v.n v.s v.l.length = (v.n == 0 && v.s.isEmpty && decide (v.l.length ≠ 1)) := by rw [h]; rfl
    have ef : fitN v.k v.s v.l.length = decide (v.l.length ≤ 16) := by rw [h]; rfl
    rw [eo, ef]
    have ed : decide ((x.L.len : Int) ≤ 16) = decide (v.l.length ≤ 16) := by rw [decide_eq_decide]; omega
    refine ⟨fun b H' => H1 = H' ∧ b = ((v.n == 0 && v.s.isEmpty && decide (v.l.length ≠ 1)), decide (v.l.length ≤ 16)), ?_, ?_⟩
    · refine ⟨H1, Heap.le.refl _, bxN hb1 (bxL hb1 ?_)⟩
      rw [hn, ed]
      refine ift.of (fun h => ?_) (fun h => ⟨rfl, by rw [h]; rfl⟩)
      refine bxS hb1 ?_
      rw [ht, sEmpty]
      refine ift.of (fun h2 => ?_) (fun h2 => ⟨rfl, by rw [h2]; simp⟩)
      refine bxL hb1 ⟨rfl, ?_⟩
      rw [h, h2, bne, show ((x.L.len : Int) == 1) = decide (v.l.length = 1) from lenZ hl 1, decide_not]; rfl
    rintro _ _ ⟨rfl, rfl⟩
    exact ⟨rfl, rfl, fun _ => rfl⟩
  have g5 : v.k ≠ 5 := by simpa using h
  refine ift.of (fun h => ?_) (fun h => ?_)
  · have h : v.k = 6 := by simpa using h
    have eo : okN v.k v.n v.s v.l.length = (v.n == 0 && namesS v.s) := by rw [h]; rfl
    have ef : fitN v.k v.s v.l.length = decide (v.l.length ≤ 8) := by rw [h]; rfl
    rw [eo, ef]
    have ed : decide ((x.L.len : Int) ≤ 8) = decide (v.l.length ≤ 8) := by rw [decide_eq_decide]; omega
    refine bxS hb1 ?_
    rw [ht]
    refine cutDot_ok hbs ?_
    have key : ∀ (a b : Str) (two : Bool), a.length ≤ 140737488355328 → b.length ≤ 140737488355328 → namesS v.s = (if two then nameS a && nameS b else nameS a && !decide (v.s = trueS) && !decide (v.s = falseS)) →
        jn (α := Bool × Bool) (fun x118 H119 => H1 = H119 ∧ x118.1 = (v.n == 0 && namesS v.s) ∧ (x118.1 = true → x118.2 = decide (v.l.length ≤ 8)))
          (fun J117 => dr H1 fun Hs121 =>
          ldI Hs121 .i64 ((b1, 0).1, (b1, 0).2 + 1) fun x123 =>
          ldL Hs121 ((b1, 0).1, (b1, 0).2 + 3) fun x125 =>
          ift ((x123 : Int) == 0)
          (c_value_name C a (fun r129 H130 =>
          Heap.le Hs121 H130 ∧
          ift r129
          (ift two
          (c_value_name C b (fun r134 H135 =>
          Heap.le Hs121 H135 ∧
          ift r134
          (J117 (true, (decide (((Sl.len x125 : Int) : Int) ≤ 8))) H135)
          (ift (!two)
          (ldS Hs121 ((b1, 0).1, (b1, 0).2 + 2) fun x138 =>
          ift (!(x138 == ([116, 114, 117, 101] : Str)))
          (ldS Hs121 ((b1, 0).1, (b1, 0).2 + 2) fun x141 =>
          J117 ((!(x141 == ([102, 97, 108, 115, 101] : Str))), (decide (((Sl.len x125 : Int) : Int) ≤ 8))) H135)
          (J117 (false, (decide (((Sl.len x125 : Int) : Int) ≤ 8))) H135))
          (J117 (false, (decide (((Sl.len x125 : Int) : Int) ≤ 8))) H135))) H130)
          (ift (!two)
          (ldS Hs121 ((b1, 0).1, (b1, 0).2 + 2) fun x144 =>
          ift (!(x144 == ([116, 114, 117, 101] : Str)))
          (ldS Hs121 ((b1, 0).1, (b1, 0).2 + 2) fun x147 =>
          J117 ((!(x147 == ([102, 97, 108, 115, 101] : Str))), (decide (((Sl.len x125 : Int) : Int) ≤ 8))) H130)
          (J117 (false, (decide (((Sl.len x125 : Int) : Int) ≤ 8))) H130))
          (J117 (false, (decide (((Sl.len x125 : Int) : Int) ≤ 8))) H130)))
          (J117 (false, (decide (((Sl.len x125 : Int) : Int) ≤ 8))) H130)) H1)
          (J117 (false, (decide (((Sl.len x125 : Int) : Int) ≤ 8))) H1)) := by
      intro a b two ha hb hns
      refine ⟨fun y H' => H1 = H' ∧ y = ((v.n == 0 && namesS v.s), decide (v.l.length ≤ 8)), ?_, ?_⟩
      · refine ⟨H1, Heap.le.refl _, bxN hb1 (bxL hb1 ?_)⟩
        rw [hn, ed]
        refine ift.of (fun h => ?_) (fun h => ⟨rfl, by rw [h]; rfl⟩)
        refine value_name_ok ha ⟨Heap.le.refl _, ?_⟩
        rw [h, hns]
        refine ift.of (fun h2 => ?_) (fun h2 => ⟨rfl, by rw [h2]; cases two <;> rfl⟩)
        rw [h2]
        have eq : ∀ t : Str, (v.s == t) = decide (v.s = t) := fun t => by rw [Bool.eq_iff_iff]; simp
        cases two with
        | true =>
          refine ift_pos rfl ?_
          refine value_name_ok hb ⟨Heap.le.refl _, ?_⟩
          exact ift.of (fun h3 => ⟨rfl, by rw [h3]; rfl⟩) (fun h3 => ift_neg rfl ⟨rfl, by rw [h3]; rfl⟩)
        | false =>
          refine ift_neg rfl (ift_pos rfl ?_)
          refine bxS hb1 ?_
          rw [ht, show (v.s == ([116, 114, 117, 101] : Str)) = decide (v.s = trueS) from eq _]
          refine ift.of (fun h3 => ?_) (fun h3 => ⟨rfl, ?_⟩)
          · refine bxS hb1 ⟨rfl, ?_⟩
            rw [ht, show (v.s == ([102, 97, 108, 115, 101] : Str)) = decide (v.s = falseS) from eq _, h3]; rfl
          · rw [h3]; rfl
      · rintro _ _ ⟨rfl, rfl⟩
        exact ⟨rfl, rfl, fun _ => rfl⟩
    have hc := names_cut v.s
    cases hcd : cutD v.s with
    | none =>
      rw [hcd] at hc
      exact key _ _ _ hbs (by simp) hc
    | some p =>
      obtain ⟨a, b⟩ := p
      rw [hcd] at hc
      have hlen : a.length ≤ v.s.length ∧ b.length ≤ v.s.length := by
        by_cases hm : (46 : UInt8) ∈ v.s
        · obtain ⟨a', b', e1, e2⟩ := cutD_mem _ hm
          have := cutD_at a' b' e2
          rw [← e1, hcd] at this
          injection this with this; injection this with h1 h2
          subst h1; subst h2
          rw [e1]; simp; omega
        · rw [cutD_no _ hm] at hcd; cases hcd
      exact key _ _ _ (by omega) (by omega) hc
  have g6 : v.k ≠ 6 := by simpa using h
  have eo : okN v.k v.n v.s v.l.length = false := by unfold okN; rw [if_neg g1, if_neg g2, if_neg g3, if_neg g4, if_neg g5, if_neg g6]
  rw [eo]
  exact ⟨rfl, rfl, fun hh => by cases hh⟩

theorem value_Check_ok {v : V} {x : TV} {H : Heap} {K : Int → Heap → Prop} (hv : VIs H v x) (hB : VB v) (k : K (checkV v) H) : c_value_Check C x K H := by
  apply c_value_Check.gh
  apply ad_value_Check
  unfold sh_value_Check
  intro b1 n1
  have hb1 : (H.put b1 (.row (T_api_Value.c x))) b1 = some (true, .row (T_api_Value.c x)) := Heap.put_same ..
  have hle1 := Heap.le_put n1 (g := .row (T_api_Value.c x)) (m := true)
  generalize H.put b1 (.row (T_api_Value.c x)) = H1 at *
  unfold checkV at k
  refine bxV hb1 (value_depth_ok (m := 65) (hv.le hle1) hB (by omega) fun r h0 h1 h2 => ?_)
  refine ift.of (fun h => ?_) (fun h => ?_)
  · have h := of_decide_eq_true h
    rw [if_pos (by omega)] at k
    exact ⟨H, Gh.le hle1, k⟩
  have h := of_decide_eq_false h
  rw [if_neg (by omega)] at k
  refine bxV hb1 (look_ok (hv.le hle1) hB fun g hg => ?_)
  refine ift.of (fun h => ?_) (fun h => ?_)
  · have h : formV v = false := by simpa using h
    rw [if_pos h] at k
    exact ⟨H, Gh.le hle1, k⟩
  have hf : formV v = true := by simpa using h
  rw [if_neg (by rw [hf]; decide)] at k
  rw [hg hf]
  refine ift.of (fun h => ?_) (fun h => ?_)
  · have h : fitsV v = false := by simpa using h
    rw [if_pos h] at k
    exact ⟨H, Gh.le hle1, k⟩
  have hf : fitsV v = true := by simpa using h
  rw [if_neg (by rw [hf]; decide)] at k
  exact ⟨H, Gh.le hle1, k⟩
end
end Sx
end

noncomputable section
set_option linter.unusedVariables false
set_option linter.unusedSimpArgs false
set_option maxRecDepth 10000
namespace Sx
open Go Go.Proofs
section
variable {C : Ctx} {H : Heap}
theorem cmpV_eq (v w : V) : cmpV v w = if v.k ≠ w.k then sgn v.k w.k else if v.k = 3 then cmpB v.s w.s else if v.k = 4 then vcmpS v.s w.s else if v.k = 5 then cmpVs v.l w.l else if v.k = 6 then (if vcmpS v.s w.s ≠ 0 then vcmpS v.s w.s else cmpVs v.l w.l) else sgn v.n w.n := by
  obtain ⟨k, n, s, l⟩ := v
  obtain ⟨k', n', s', l'⟩ := w
  simp only [cmpV, V.k, V.n, V.s, V.l]
  rfl

theorem mayV_dec (v : V) : ((checkV v : Int) == 0) = mayV v := by unfold mayV; rw [Bool.eq_iff_iff]; simp
theorem mayV_form {v : V} (h : mayV v = true) : formV v = true := ((mayV_iff v).1 h).2.1

theorem sameVs_len : ∀ {l m : List V}, sameVs l m = true → l.length = m.length
  | [], [], _ => rfl
  | [], _ :: _, h => by simp [sameVs] at h
  | _ :: _, [], h => by simp [sameVs] at h
  | v :: l, w :: m, h => by
    simp only [sameVs, Bool.and_eq_true] at h
    have := sameVs_len h.2
    simp [this]
theorem SameRow_gen {l m : List V} {s t : Sl} {H : Heap} {K : Bool → Heap → Prop} (hs : VRow H s l) (ht : VRow H t m) (hl : l.length ≤ 140737488355328)
    (ih : ∀ v ∈ l, ∀ w, ∀ {x y : TV} {K : Bool → Heap → Prop}, VIs H v x → VIs H w y → w ∈ m → K (sameV v w) H → c_ref02_Same C x y K H) (k : K (sameVs l m) H) : c_ref02_SameRow C s t K H := by
  apply ad_ref02_SameRow
  unfold sh_ref02_SameRow
  rw [hs.len, ht.len]
  by_cases hlm : l.length = m.length
  rotate_left
  · refine ift_pos (by simp; omega) ?_
    cases hh : sameVs l m with
    | true => exact absurd (sameVs_len hh) hlm
    | false => rw [hh] at k; exact k
  refine ift_neg (by simp; omega) ?_
  refine ⟨fun x H' => ∃ i : Nat, x = (i : Int) ∧ i ≤ l.length ∧ H = H' ∧ sameVs l m = sameVs (l.drop i) (m.drop i), fun x _ => l.length - x.toNat, ⟨0, rfl, Nat.zero_le _, rfl, rfl⟩, ?_⟩
  rintro x _ ⟨i, rfl, hi, rfl, ha⟩
  refine ift.of (fun h => ?_) (fun h => ?_)
  · have h1 : i < l.length := by have := of_decide_eq_true h; omega
    have h2 : i < m.length := by omega
    have m1 := List.getElem_mem h1
    have m2 := List.getElem_mem h2
    rw [List.drop_eq_getElem_cons h1, List.drop_eq_getElem_cons h2] at ha
    simp only [sameVs] at ha
    refine ⟨H, Heap.le.refl _, ?_⟩
    refine hs.ld (Heap.le.refl _) rfl h1 fun y hy => ?_
    refine ht.ld (Heap.le.refl _) rfl h2 fun z hz => ?_
    refine ih _ m1 _ hy hz m2 ⟨Heap.le.refl _, ?_⟩
    refine ift.of (fun h => ?_) (fun h => ?_)
    · have h : sameV l[i] m[i] = false := by simpa using h
      rw [ha, h] at k; exact k
    · have h : sameV l[i] m[i] = true := by simpa using h
      rw [h, Bool.true_and] at ha
      rw [w_i64 (by omega) (by omega)]
      exact ⟨⟨i + 1, by omega, by omega, rfl, ha⟩, by first | omega | (dsimp only; omega)⟩
  · have hie : i = l.length := by have := of_decide_eq_false h; omega
    rw [hie, List.drop_length, hlm, List.drop_length] at ha
    rw [ha] at k; exact k

theorem sameV_eqn (v w : V) : sameV v w = (v.k == w.k && v.n == w.n && decide (v.s = w.s) && sameVs v.l w.l) := by
  obtain ⟨k, n, s, l⟩ := v
  obtain ⟨k', n', s', l'⟩ := w
  simp only [sameV, V.k, V.n, V.s, V.l]
  rfl

theorem Same_ok {v w : V} {x y : TV} {H : Heap} {K : Bool → Heap → Prop} (hv : VIs H v x) (hw : VIs H w y) (hB : VB v) (k : K (sameV v w) H) : c_ref02_Same C x y K H := by
  refine V.rec_ (P := fun v => ∀ {w x y H} {K : Bool → Heap → Prop}, VIs H v x → VIs H w y → VB v → K (sameV v w) H → c_ref02_Same C x y K H) (fun v ih => ?_) v hv hw hB k
  clear hv hw hB k
  intro w x y H K hv hw hB k
  apply c_ref02_Same.gh
  apply ad_ref02_Same
  unfold sh_ref02_Same
  intro b1 n1 b3 n3
  have hb3 : ((H.put b1 (.row (T_api_Value.c x))).put b3 (.row (T_api_Value.c y))) b3 = some (true, .row (T_api_Value.c y)) := Heap.put_same ..
  have hne : b1 ≠ b3 := fun e => by rw [e, Heap.put_same] at n3; cases n3
  have hb1 : ((H.put b1 (.row (T_api_Value.c x))).put b3 (.row (T_api_Value.c y))) b1 = some (true, .row (T_api_Value.c x)) := by rw [Heap.put_ne _ _ _ hne, Heap.put_same]
  have hle := (Heap.le_put n1 (g := .row (T_api_Value.c x)) (m := true)).trans (Heap.le_put n3 (g := .row (T_api_Value.c y)) (m := true))
  generalize (H.put b1 (.row (T_api_Value.c x))).put b3 (.row (T_api_Value.c y)) = H1 at *
  have k' : ∃ H0, Gh C H1 H0 ∧ K (sameV v w) H0 := ⟨H, Gh.le hle, k⟩
  rw [sameV_eqn] at k'
  refine bxK hb1 (bxK hb3 ?_)
  rw [hv.kind, hw.kind]
  refine ⟨fun b H' => H1 = H' ∧ b = (v.k == w.k && v.n == w.n), ?_, ?_⟩
  · refine ift.of (fun h => ?_) (fun h => ⟨rfl, by rw [h]; rfl⟩)
    refine bxN hb1 (bxN hb3 ⟨rfl, ?_⟩)
    rw [h, hv.num, hw.num]; rfl
  rintro _ _ ⟨rfl, rfl⟩
  refine ⟨fun b H' => H1 = H' ∧ b = (v.k == w.k && v.n == w.n && decide (v.s = w.s)), ?_, ?_⟩
  · refine ift.of (fun h => ?_) (fun h => ⟨rfl, by rw [h]; rfl⟩)
    refine bxS hb1 (bxS hb3 ⟨rfl, ?_⟩)
    rw [h, hv.txt, hw.txt, Bool.true_and, Bool.eq_iff_iff]; simp
  rintro _ _ ⟨rfl, rfl⟩
  refine ⟨fun b H' => H1 = H' ∧ b = (v.k == w.k && v.n == w.n && decide (v.s = w.s) && sameVs v.l w.l), ?_, ?_⟩
  · refine ift.of (fun h => ?_) (fun h => ⟨rfl, by rw [h]; rfl⟩)
    refine bxL hb1 (bxL hb3 ?_)
    refine SameRow_gen (hv.row.le hle) (hw.row.le hle) hB.l (fun p hp q {x' y'} {K'} hx hy _ kk => ih p hp hx hy (hB.ls.mem hp) kk) ⟨rfl, ?_⟩
    rw [h]; rfl
  rintro _ _ ⟨rfl, rfl⟩
  exact k'
theorem SameRow_ok {l m : List V} {s t : Sl} {H : Heap} {K : Bool → Heap → Prop} (hs : VRow H s l) (ht : VRow H t m) (hl : l.length ≤ 140737488355328) (hB : VBs l) (k : K (sameVs l m) H) : c_ref02_SameRow C s t K H :=
  SameRow_gen hs ht hl (fun p hp q {x y} {K} hx hy _ kk => Same_ok hx hy (hB.mem hp) kk) k
end
end Sx
end

noncomputable section
set_option linter.unusedVariables false
set_option linter.unusedSimpArgs false
namespace Sx
open Go
section
variable {H : Type} {enc : TypeId × Value → H} {P : Program} {W : World}
/-- the type of values -/
structure ValT (P : Program) (t tl : TypeId) : Prop where
  st : ∃ fs : Array Field, P.underlying t = some (.struct fs) ∧ fs.size = 4 ∧ (∃ f tk, fs[0]? = some f ∧ f.type = tk ∧ f.offset = 0 ∧ P.underlying tk = some (.int .u8) ∧ P.cellsOf tk = 1) ∧ (∃ f tk, fs[1]? = some f ∧ f.type = tk ∧ f.offset = 1 ∧ P.underlying tk = some (.int .i64) ∧ P.cellsOf tk = 1) ∧ (∃ f tk, fs[2]? = some f ∧ f.type = tk ∧ f.offset = 2 ∧ P.underlying tk = some .string ∧ P.cellsOf tk = 1) ∧ (∃ f, fs[3]? = some f ∧ f.type = tl ∧ f.offset = 3 ∧ P.cellsOf tl = 1)
  cells : P.cellsOf t = 4
  sl : P.underlying tl = some (.slice t)

end
end Sx
end

noncomputable section
set_option linter.unusedVariables false
set_option linter.unusedSimpArgs false
namespace Sx
open Go
section
variable {H : Type} {enc : TypeId × Value → H} {P : Program} {W : World}
theorem rows_genw {t tl : TypeId} {css : List (List Value)} {s : Sl} (hl : css.length = s.len) (hr : rdsl (heapOf W) s css.flatten)
    (ih : ∀ c ∈ css, ∃ (v : V) (x : TV), c = T_api_Value.c x ∧ VIs (heapOf W) v x ∧ VB v) : ∃ l : List V, VRow (heapOf W) s l ∧ VBs l := by
  have key : ∀ (css : List (List Value)), (∀ c ∈ css, ∃ (v : V) (x : TV), c = T_api_Value.c x ∧ VIs (heapOf W) v x ∧ VB v) →
      ∃ (l : List V) (xs : List TV), css.flatten = xs.flatMap T_api_Value.c ∧ css.length = xs.length ∧ VsAre (heapOf W) l xs ∧ VBs l := by
    intro css
    induction css with
    | nil => intro _; exact ⟨[], [], rfl, rfl, trivial, trivial⟩
    | cons c css ihc =>
      intro hh
      obtain ⟨v, x, h1, h2, h3⟩ := hh c (List.mem_cons_self ..)
      obtain ⟨l, xs, g1, g2, g3, g4⟩ := ihc fun c' hc => hh c' (List.mem_cons_of_mem _ hc)
      exact ⟨v :: l, x :: xs, by rw [List.flatten_cons, List.flatMap_cons, g1, h1], by simp [g2], ⟨h2, g3⟩, ⟨h3, g4⟩⟩
  obtain ⟨l, xs, g1, g2, g3, g4⟩ := key css ih
  exact ⟨l, ⟨xs, by rw [← g1]; exact hr, by omega, g3⟩, g4⟩

theorem valw_of {t tl : TypeId} (hT : ValT P t tl) (hb : 1 ≤ P.bytesOf t) : ∀ (n : Nat) {cs : List Value}, TrW P W n t cs → ∃ (v : V) (y : TV), cs = T_api_Value.c y ∧ VIs (heapOf W) v y ∧ VB v := by
  intro n
  induction n using Nat.strongRecOn with
  | _ n ih =>
  intro cs h
  obtain ⟨fs, hu, hfs, ⟨f0, t0, a0, b0, c0, d0, e0⟩, ⟨f1, t1, a1, b1, c1, d1, e1⟩, ⟨f2, t2, a2, b2, c2, d2, e2⟩, ⟨f3, a3, b3, c3, e3⟩⟩ := hT.st
  obtain ⟨hl, m, rfl, hf⟩ := h.struct hu
  rw [hT.cells] at hl
  match cs, hl with
  | [q0, q1, q2, q3], _ =>
  have g0 := hf 0 f0 a0
  have g1 := hf 1 f1 a1
  have g2 := hf 2 f2 a2
  have g3 := hf 3 f3 a3
  rw [b0, c0, e0] at g0
  rw [b1, c1, e1] at g1
  rw [b2, c2, e2] at g2
  rw [b3, c3, e3] at g3
  simp at g0 g1 g2 g3
  obtain ⟨n0, k0, k2⟩ := g0.int d0
  obtain ⟨n1, l0, l2⟩ := g1.int d1
  obtain ⟨s2, m0, m1, m2⟩ := g2.str d2
  obtain ⟨s, css, m', hm', p0, p1, p2, p3, p4, p5, p6⟩ := g3.slice hT.sl hT.cells (by omega)
  have hmx : reachBytes = 140737488351232 := rfl
  rw [hmx] at p3 m2
  obtain ⟨l, r1, r2⟩ := rows_genw (t := t) (tl := tl) p4 p5 fun c hc => ih m' (by omega) (p6 c hc).2
  have hll := r1.len
  have hsl : s.len ≤ 140737488351232 := Nat.le_trans (Nat.le_mul_of_pos_right _ (by omega)) p3
  refine ⟨.mk n0 n1 s2 l, ⟨n0, n1, s2, s⟩, ?_, VIs_iff.2 ⟨rfl, rfl, rfl, r1⟩, ⟨?_, ?_, by omega, by omega, r2⟩⟩
  · injection k0 with k0
    injection l0 with l0
    injection m0 with m0
    injection p0 with p0
    subst k0; subst l0; subst m0; subst p0
    simp [T_api_Value.c]
  · simpa [Lit.wf, IntKind.min, IntKind.max, IntKind.signed, IntKind.bits] using k2
  · simpa [Lit.wf, IntKind.min, IntKind.max, IntKind.signed, IntKind.bits] using l2

end
end Sx
end

noncomputable section
set_option linter.unusedVariables false
set_option linter.unusedSimpArgs false
namespace Sx
open Go Go.Proofs
section
variable {H : Type} {enc : TypeId × Value → H} {P : Program} {W : World}
theorem row_ofw {t tl : TypeId} (hT : ValT P t tl) (hb : 1 ≤ P.bytesOf t) {m : Nat} {c : List Value} (h : TrW P W m tl c) : ∃ (s : Sl) (l : List V), c = [slv s] ∧ VRow (heapOf W) s l ∧ VBs l ∧ l.length ≤ 140737488355328 := by
  obtain ⟨s, css, m', hm', p0, p1, p2, p3, p4, p5, p6⟩ := h.slice hT.sl hT.cells (by omega)
  obtain ⟨l, r1, r2⟩ := rows_genw (t := t) (tl := tl) p4 p5 fun c hc => valw_of hT hb m' (p6 c hc).2
  have hll := r1.len
  have hmx : reachBytes = 140737488351232 := rfl
  rw [hmx] at p3
  have hsl : s.len ≤ 140737488351232 := Nat.le_trans (Nat.le_mul_of_pos_right _ (by omega)) p3
  exact ⟨s, l, p0, r1, r2, by omega⟩
end
end Sx
end

noncomputable section
set_option linter.unusedVariables false
set_option linter.unusedSimpArgs false
namespace Sx
open Go Go.Proofs
theorem sgn_self (a : Int) : sgn a a = 0 := by unfold sgn; rw [if_neg (by omega), if_neg (by omega)]
theorem sgn_rng (a b : Int) : -1 ≤ sgn a b ∧ sgn a b ≤ 1 := by unfold sgn; (split; · omega); (split <;> omega)
theorem sgn_neg {a b : Int} : sgn a b < 0 ↔ a < b := by unfold sgn; (split; · omega); (split <;> omega)
theorem sgn_zero {a b : Int} : sgn a b = 0 ↔ a = b := by unfold sgn; (split; · omega); (split <;> omega)
section
variable {C : Ctx} {H : Heap}
end
end Sx
end

