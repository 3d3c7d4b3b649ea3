/-
  Texts of this family, one behind the other: Sh3, Sh, FmtI, ValQ.
-/
import Derived.Test.YthfggbmlmpegaaaGreatDoorA3
import Derived.Shelf.Strconv.Itoa4
noncomputable section
set_option linter.unusedVariables false
set_option maxRecDepth 100000
namespace Sx
open Go Go.Proofs
def sh_strings_Builder_copyCheck (C : Ctx) (p_b : Option (Nat × Nat)) (K : Heap → Prop) (H : Heap) : Prop :=
  nck p_b fun p1 =>
 ldP H (p1.1, p1.2 + 0) fun x3 =>
 ift (Option.isNone x3)
 (∃ p7, p_b = some p7 ∧ cvU p7 (
 cvP 49 2 p7 (
 nck p_b fun p10 =>
 sttG (p10.1, p10.2 + 0) (pv (some p7)) (fun H12 =>
 K H12) H) H) H)
 (nck p_b fun p13 =>
 ldP H (p13.1, p13.2 + 0) fun x15 =>
 ∃ p17, x15 = some p17 ∧ p_b = some p17 ∧
 ift false
 (False)
 (K H))

theorem ad_strings_Builder_copyCheck (C : Ctx) (p_b : Option (Nat × Nat)) (K : Heap → Prop) (H : Heap) (h : sh_strings_Builder_copyCheck C p_b K H) : c_strings_Builder_copyCheck C p_b K H := by
  refine Spec.enter Tryz.func59 rfl Tryz.ntmps59 rfl ?_
  refine GC.sub [(0, pv p_b)] ⟨rfl, trivial⟩ ?_
  refine GC.seq ?_
  refine GC.region ?_
  refine GL.val trivial rfl (OV.move (v := pv p_b) rfl) ?_
  obtain ⟨p1, hp2, h⟩ := h
  refine GL.val trivial rfl (OV.nilCheck (q := p_b) rfl hp2) ?_
  refine GL.val trivial rfl (OV.fieldAddr (p := p1) rfl rfl) ?_
  obtain ⟨x3, hr4, h⟩ := h
  refine GL.val trivial rfl (OV.load (p := (p1.1, p1.2 + 0)) rfl rfl hr4) ?_
  refine GL.val trivial rfl (OV.eqlNil (p := x3) rfl rfl rfl) ?_
  refine GL.nil ?_
  refine GC.cond (b := Option.isNone x3) rfl (fun hc5 => ?_) (fun hc5 => ?_)
  · replace h := And.left h hc5
    refine GC.region ?_
    refine GL.val trivial rfl (OV.move (v := pv p_b) rfl) ?_
    refine GL.val trivial rfl (OV.move (v := pv p_b) rfl) ?_
    obtain ⟨p7, hp8, hu6, h⟩ := h
    refine GL.val trivial rfl (OV.cvU (q := p_b) (p := p7) hp8 hu6 rfl rfl rfl ⟨_, rfl, by decide⟩) ?_
    refine GL.val trivial rfl (OV.ext ext_internal_abi_NoEscape (vs := [pv (some p7)]) (v := pv (some p7)) rfl (fun w => run_same _ w)) ?_
    obtain ⟨hu9, h⟩ := h
    refine GL.val trivial rfl (OV.cvP (T := 49) (len := 2) (p := p7) hu9 rfl rfl rfl ⟨_, rfl⟩ (by kernel_rfl)) ?_
    obtain ⟨p10, hp11, h⟩ := h
    refine GL.val trivial rfl (OV.nilCheck (q := p_b) rfl hp11) ?_
    refine GL.val trivial rfl (OV.fieldAddr (p := p10) rfl rfl) ?_
    refine GL.storeG (p := (p10.1, p10.2 + 0)) (v := pv (some p7)) h trivial rfl rfl rfl rfl ?_
    intro H12 h
    exact GL.ends (fun _ _ hf hs => post_tmp0 rfl hf hs ⟨rfl, h⟩)
  · replace h := And.right h hc5
    refine GC.seq ?_
    refine GC.region ?_
    refine GL.val trivial rfl (OV.move (v := pv p_b) rfl) ?_
    obtain ⟨p13, hp14, h⟩ := h
    refine GL.val trivial rfl (OV.nilCheck (q := p_b) rfl hp14) ?_
    refine GL.val trivial rfl (OV.fieldAddr (p := p13) rfl rfl) ?_
    obtain ⟨x15, hr16, h⟩ := h
    refine GL.val trivial rfl (OV.load (p := (p13.1, p13.2 + 0)) rfl rfl hr16) ?_
    refine GL.val trivial rfl (OV.move (v := pv p_b) rfl) ?_
    obtain ⟨p17, hp18, hq19, h⟩ := h
    refine GL.val trivial rfl (OV.neqSame (p := x15) (q := p_b) rfl rfl hp18 hq19 rfl rfl) ?_
    refine GL.nil ?_
    refine GC.cond (b := false) rfl (fun hc20 => ?_) (fun hc20 => ?_)
    · replace h := And.left h hc20
      exact GC.never h
    · replace h := And.right h hc20
      exact GC.ends (fun _ _ hf hs => post_tmp0 rfl hf hs ⟨rfl, h⟩)

def sh_internal_strconv_FormatBool (C : Ctx) (p_b : Bool) (K : Str → Heap → Prop) (H : Heap) : Prop :=
  ift p_b
 (K [116, 114, 117, 101] H)
 (K [102, 97, 108, 115, 101] H)

theorem ad_internal_strconv_FormatBool (C : Ctx) (p_b : Bool) (K : Str → Heap → Prop) (H : Heap) (h : sh_internal_strconv_FormatBool C p_b K H) : c_internal_strconv_FormatBool C p_b K H := by
  refine Spec.enter Tryz.func60 rfl Tryz.ntmps60 rfl ?_
  refine GC.sub [(0, .bool p_b)] ⟨rfl, trivial⟩ ?_
  refine GC.seq ?_
  refine GC.region ?_
  refine GL.val trivial rfl (OV.assign (v := sv []) rfl) ?_
  refine GL.nil ?_
  refine GC.seq ?_
  refine GC.seq ?_
  refine GC.region ?_
  refine GL.val trivial rfl (OV.move (v := .bool p_b) rfl) ?_
  refine GL.nil ?_
  refine GC.cond (b := p_b) rfl (fun hc1 => ?_) (fun hc1 => ?_)
  · replace h := And.left h hc1
    refine GC.seq ?_
    refine GC.region ?_
    refine GL.val trivial rfl (OV.assign (v := sv [116, 114, 117, 101]) rfl) ?_
    refine GL.nil ?_
    exact GC.ret (fun _ _ hf hs => post_tmp1 rfl rfl hf hs ⟨[116, 114, 117, 101], rfl, h⟩)
  · replace h := And.right h hc1
    refine GC.skip ?_
    refine GC.seq ?_
    refine GC.region ?_
    refine GL.val trivial rfl (OV.assign (v := sv [102, 97, 108, 115, 101]) rfl) ?_
    refine GL.nil ?_
    exact GC.ret (fun _ _ hf hs => post_tmp1 rfl rfl hf hs ⟨[102, 97, 108, 115, 101], rfl, h⟩)

def sh_slices_IndexFunc_api_Value_api_Value (C : Ctx) (p_s : Sl) (p_f : Value) (K : Int → Heap → Prop) (H : Heap) : Prop :=
  lp (α := Int) 0 H (fun x1 J2 H3 =>
 ift (decide ((x1 : Int) < (Sl.len p_s : Int)))
 (ixa p_s x1 fun p5 =>
 ldT H3 T_api_Value.c (p5.1, p5.2 + (x1 : Int).toNat * 4) fun x10 =>
 callU Tryz.prog C p_f [.agg (T_api_Value.c x10).toArray] H3 (fun v H13 => ∃ (r12 : Bool), v = .bool r12 ∧
 ift r12
 (K x1 H13)
 (J2 (w .i64 (x1 + 1)) H13)))
 (K (-1) H3))

theorem ad_slices_IndexFunc_api_Value_api_Value (C : Ctx) (p_s : Sl) (p_f : Value) (K : Int → Heap → Prop) (H : Heap) (h : sh_slices_IndexFunc_api_Value_api_Value C p_s p_f K H) : c_slices_IndexFunc_api_Value_api_Value C p_s p_f K H := by
  refine Spec.enter Tryz.func62 rfl Tryz.ntmps62 rfl ?_
  refine GC.sub [(0, slv p_s), (1, p_f)] ⟨rfl, rfl, trivial⟩ ?_
  refine GC.seq ?_
  refine GC.region ?_
  refine GL.val trivial rfl (OV.assign (v := .int .i64 0) rfl) ?_
  refine GL.nil ?_
  refine GC.seq ?_
  refine GC.seq ?_
  refine GC.region ?_
  refine GL.val trivial rfl (OV.move (v := slv p_s) rfl) ?_
  refine GL.val trivial rfl (OV.lenSl (s := p_s) rfl rfl) ?_
  refine GL.val trivial rfl (OV.move (v := .int .i64 0) rfl) ?_
  refine GL.nil ?_
  refine GC.block ?_
  refine GC.loop (α := Int) h (fun x1 => [(8, .int .i64 x1), (0, slv p_s), (1, p_f), (7, .int .i64 (Sl.len p_s : Int))]) ⟨rfl, rfl, rfl, rfl, trivial⟩ ?_
  intro x1 H3 J2 h
  refine GC.seq ?_
  refine GC.region ?_
  refine GL.val trivial rfl (OV.ibin (v := .bool (decide ((x1 : Int) < (Sl.len p_s : Int)))) rfl rfl rfl) ?_
  refine GL.nil ?_
  refine GC.seq ?_
  refine GC.cond (b := decide ((x1 : Int) < (Sl.len p_s : Int))) rfl (fun hc4 => ?_) (fun hc4 => ?_)
  · replace h := And.left h hc4
    refine GC.skip ?_
    refine GC.seq ?_
    refine GC.block ?_
    refine GC.seq ?_
    refine GC.region ?_
    refine GL.val trivial rfl (OV.move (v := .int .i64 x1) rfl) ?_
    refine GL.val trivial rfl (OV.assign (v := .int .i64 x1) rfl) ?_
    refine GL.nil ?_
    refine GC.seq ?_
    refine GC.region ?_
    refine GL.val trivial rfl (OV.move (v := p_f) rfl) ?_
    refine GL.val trivial rfl (OV.move (v := slv p_s) rfl) ?_
    refine GL.val trivial rfl (OV.move (v := .int .i64 x1) rfl) ?_
    obtain ⟨p5, ha6, hb7, hc8, hd9, h⟩ := h
    refine GL.val trivial rfl (OV.indexAddr (s := p_s) rfl rfl rfl rfl ha6 hb7 hc8 hd9) ?_
    obtain ⟨x10, hr11, h⟩ := h
    refine GL.val trivial rfl (OV.loadT (p := (p5.1, p5.2 + (x1 : Int).toNat * 4)) (cs := T_api_Value.c x10) rfl rfl rfl hr11) ?_
    refine GL.callU (xv := p_f) (vs := [.agg (T_api_Value.c x10).toArray]) h trivial rfl rfl rfl ?_
    rintro _ H13 ⟨r12, rfl, h⟩
    refine GL.nil ?_
    refine GC.cond (b := r12) rfl (fun hc14 => ?_) (fun hc14 => ?_)
    · replace h := And.left h hc14
      refine GC.seq ?_
      refine GC.region ?_
      refine GL.val trivial rfl (OV.move (v := .int .i64 x1) rfl) ?_
      refine GL.val trivial rfl (OV.assign (v := .int .i64 x1) rfl) ?_
      refine GL.nil ?_
      exact GC.ret (fun _ _ hf hs => post_tmp1 rfl rfl hf hs ⟨x1, rfl, h⟩)
    · replace h := And.right h hc14
      refine GC.skip_to (fun _ _ h => h) ?_
      refine GC.region ?_
      refine GL.val trivial rfl (OV.ibin (v := .int .i64 (w .i64 (x1 + 1))) rfl rfl rfl) ?_
      refine GL.val trivial rfl (OV.move (v := .int .i64 (w .i64 (x1 + 1))) rfl) ?_
      exact GL.jump (fun _ _ h => h) (w .i64 (x1 + 1)) h ⟨rfl, rfl, rfl, rfl, trivial⟩
  · replace h := And.right h hc4
    refine GC.exit_to (fun _ _ h => h) ?_
    refine GC.seq ?_
    refine GC.region ?_
    refine GL.val trivial rfl (OV.assign (v := .int .i64 (-1)) rfl) ?_
    refine GL.nil ?_
    exact GC.ret (fun _ _ hf hs => post_tmp1 rfl rfl hf hs ⟨(-1), rfl, h⟩)

def sh_cmp_Compare_uint8 (C : Ctx) (p_x : Int) (p_y : Int) (K : Int → Heap → Prop) (H : Heap) : Prop :=
  c_cmp_isNaN_uint8 C p_x (fun r1 H2 =>
 c_cmp_isNaN_uint8 C p_y (fun r3 H4 =>
 ift r1
 (ift r3
 (K 0 H4)
 (K (-1) H4))
 (ift r3
 (K 1 H4)
 (ift (decide ((p_x : Int) < p_y))
 (K (-1) H4)
 (ift (decide ((p_x : Int) > p_y))
 (K 1 H4)
 (K 0 H4))))) H2) H

theorem ad_cmp_Compare_uint8 (C : Ctx) (p_x : Int) (p_y : Int) (K : Int → Heap → Prop) (H : Heap) (h : sh_cmp_Compare_uint8 C p_x p_y K H) : c_cmp_Compare_uint8 C p_x p_y K H := by
  refine Spec.enter Tryz.func63 rfl Tryz.ntmps63 rfl ?_
  refine GC.sub [(0, .int .u8 p_x), (1, .int .u8 p_y)] ⟨rfl, rfl, trivial⟩ ?_
  refine GC.seq ?_
  refine GC.region ?_
  refine GL.val trivial rfl (OV.assign (v := .int .i64 0) rfl) ?_
  refine GL.nil ?_
  refine GC.seq ?_
  refine GC.region ?_
  refine GL.val trivial rfl (OV.move (v := .int .u8 p_x) rfl) ?_
  refine GL.call h trivial rfl ok_cmp_isNaN_uint8 (vs := [.int .u8 p_x]) rfl ?_
  rintro _ H2 ⟨r1, rfl, h⟩
  refine GL.val trivial rfl (OV.assign (v := .bool r1) rfl) ?_
  refine GL.nil ?_
  refine GC.seq ?_
  refine GC.region ?_
  refine GL.val trivial rfl (OV.move (v := .int .u8 p_y) rfl) ?_
  refine GL.call h trivial rfl ok_cmp_isNaN_uint8 (vs := [.int .u8 p_y]) rfl ?_
  rintro _ H4 ⟨r3, rfl, h⟩
  refine GL.val trivial rfl (OV.assign (v := .bool r3) rfl) ?_
  refine GL.nil ?_
  refine GC.seq ?_
  refine GC.seq ?_
  refine GC.region ?_
  refine GL.val trivial rfl (OV.move (v := .bool r1) rfl) ?_
  refine GL.nil ?_
  refine GC.cond (b := r1) rfl (fun hc5 => ?_) (fun hc5 => ?_)
  · replace h := And.left h hc5
    refine GC.seq ?_
    refine GC.seq ?_
    refine GC.region ?_
    refine GL.val trivial rfl (OV.move (v := .bool r3) rfl) ?_
    refine GL.nil ?_
    refine GC.cond (b := r3) rfl (fun hc6 => ?_) (fun hc6 => ?_)
    · replace h := And.left h hc6
      refine GC.seq ?_
      refine GC.region ?_
      refine GL.val trivial rfl (OV.assign (v := .int .i64 0) rfl) ?_
      refine GL.nil ?_
      exact GC.ret (fun _ _ hf hs => post_tmp1 rfl rfl hf hs ⟨0, rfl, h⟩)
    · replace h := And.right h hc6
      refine GC.skip ?_
      refine GC.seq ?_
      refine GC.region ?_
      refine GL.val trivial rfl (OV.assign (v := .int .i64 (-1)) rfl) ?_
      refine GL.nil ?_
      exact GC.ret (fun _ _ hf hs => post_tmp1 rfl rfl hf hs ⟨(-1), rfl, h⟩)
  · replace h := And.right h hc5
    refine GC.skip ?_
    refine GC.seq ?_
    refine GC.seq ?_
    refine GC.region ?_
    refine GL.val trivial rfl (OV.move (v := .bool r3) rfl) ?_
    refine GL.nil ?_
    refine GC.cond (b := r3) rfl (fun hc7 => ?_) (fun hc7 => ?_)
    · replace h := And.left h hc7
      refine GC.seq ?_
      refine GC.region ?_
      refine GL.val trivial rfl (OV.assign (v := .int .i64 1) rfl) ?_
      refine GL.nil ?_
      exact GC.ret (fun _ _ hf hs => post_tmp1 rfl rfl hf hs ⟨1, rfl, h⟩)
    · replace h := And.right h hc7
      refine GC.skip ?_
      refine GC.seq ?_
      refine GC.seq ?_
      refine GC.region ?_
      refine GL.val trivial rfl (OV.move (v := .int .u8 p_x) rfl) ?_
      refine GL.val trivial rfl (OV.move (v := .int .u8 p_y) rfl) ?_
      refine GL.val trivial rfl (OV.ibin (v := .bool (decide ((p_x : Int) < p_y))) rfl rfl rfl) ?_
      refine GL.nil ?_
      refine GC.cond (b := decide ((p_x : Int) < p_y)) rfl (fun hc8 => ?_) (fun hc8 => ?_)
      · replace h := And.left h hc8
        refine GC.seq ?_
        refine GC.region ?_
        refine GL.val trivial rfl (OV.assign (v := .int .i64 (-1)) rfl) ?_
        refine GL.nil ?_
        exact GC.ret (fun _ _ hf hs => post_tmp1 rfl rfl hf hs ⟨(-1), rfl, h⟩)
      · replace h := And.right h hc8
        refine GC.skip ?_
        refine GC.seq ?_
        refine GC.seq ?_
        refine GC.region ?_
        refine GL.val trivial rfl (OV.move (v := .int .u8 p_x) rfl) ?_
        refine GL.val trivial rfl (OV.move (v := .int .u8 p_y) rfl) ?_
        refine GL.val trivial rfl (OV.ibin (v := .bool (decide ((p_x : Int) > p_y))) rfl rfl rfl) ?_
        refine GL.nil ?_
        refine GC.cond (b := decide ((p_x : Int) > p_y)) rfl (fun hc9 => ?_) (fun hc9 => ?_)
        · replace h := And.left h hc9
          refine GC.seq ?_
          refine GC.region ?_
          refine GL.val trivial rfl (OV.assign (v := .int .i64 1) rfl) ?_
          refine GL.nil ?_
          exact GC.ret (fun _ _ hf hs => post_tmp1 rfl rfl hf hs ⟨1, rfl, h⟩)
        · replace h := And.right h hc9
          refine GC.skip ?_
          refine GC.seq ?_
          refine GC.region ?_
          refine GL.val trivial rfl (OV.assign (v := .int .i64 0) rfl) ?_
          refine GL.nil ?_
          exact GC.ret (fun _ _ hf hs => post_tmp1 rfl rfl hf hs ⟨0, rfl, h⟩)

def sh_value_bigs (C : Ctx) (p_a : Str) (p_b : Str) (K : Int → Heap → Prop) (H : Heap) : Prop :=
  c_strings_HasPrefix C p_a [45] (fun r1 H2 =>
 c_strings_HasPrefix C p_b [45] (fun r3 H4 =>
 ift (r1 && r3)
 (dr H4 fun Hs7 =>
 slS p_b 1 (List.length p_b : Int) fun t9 =>
 slS p_a 1 (List.length p_a : Int) fun t15 =>
 c_value_bigs C t9 t15 (fun r22 H23 =>
 Heap.le Hs7 H23 ∧
 K r22 H23) H4)
 (ift r1
 (K (-1) H4)
 (ift r3
 (K 1 H4)
 (c_cmp_Compare_int C (List.length p_a : Int) (List.length p_b : Int) (fun r26 H27 =>
 c_cmp_Compare_string C p_a p_b (fun r28 H29 =>
 nw ([.int .i64 r26, .int .i64 r28]) (fun b30 H31 =>
 c_cmp_Or_int C (Sl.of (some (b30, 0)) 2 2) (fun r32 H33 =>
 K r32 H33) H31) H29) H27) H4)))) H2) H

theorem ad_value_bigs (C : Ctx) (p_a : Str) (p_b : Str) (K : Int → Heap → Prop) (H : Heap) (h : sh_value_bigs C p_a p_b K H) : c_value_bigs C p_a p_b K H := by
  refine Spec.enter Tryz.func64 rfl Tryz.ntmps64 rfl ?_
  refine GC.sub [(0, sv p_a), (1, sv p_b)] ⟨rfl, rfl, trivial⟩ ?_
  refine GC.seq ?_
  refine GC.region ?_
  refine GL.val trivial rfl (OV.assign (v := .int .i64 0) rfl) ?_
  refine GL.nil ?_
  refine GC.seq ?_
  refine GC.region ?_
  refine GL.val trivial rfl (OV.move (v := sv p_a) rfl) ?_
  refine GL.call h trivial rfl ok_strings_HasPrefix (vs := [sv p_a, sv [45]]) rfl ?_
  rintro _ H2 ⟨r1, rfl, h⟩
  refine GL.val trivial rfl (OV.move (v := sv p_b) rfl) ?_
  refine GL.call h trivial rfl ok_strings_HasPrefix (vs := [sv p_b, sv [45]]) rfl ?_
  rintro _ H4 ⟨r3, rfl, h⟩
  refine GL.val trivial rfl (OV.assign (v := .bool r1) rfl) ?_
  refine GL.val trivial rfl (OV.assign (v := .bool r3) rfl) ?_
  refine GL.nil ?_
  refine GC.seq ?_
  refine GC.block ?_
  refine GC.seq ?_
  refine GC.region ?_
  refine GL.val trivial rfl (OV.move (v := .bool r1) rfl) ?_
  refine GL.val trivial rfl (OV.move (v := .bool r1) rfl) ?_
  refine GL.cut0 2 [(15, .bool (r1 && r3)), (0, sv p_a), (1, sv p_b), (5, .bool r1), (6, .bool r3)] ?_ ?_
  · rcases Bool.eq_false_or_eq_true r1 with hc5 | hc5
    · skip
      refine GL.val ⟨_, _, rfl, rfl, hc5⟩ rfl (OV.move (v := .bool r3) rfl) ?_
      refine GL.val trivial rfl (OV.pickT (b := r1) (v := .bool r3) rfl hc5 rfl) ?_
      exact GL.jump0 (fun _ _ h => h) () rfl ⟨(by rw [hc5]; rfl), rfl, rfl, rfl, rfl, trivial⟩
    · skip
      refine GL.skip ⟨_, rfl, .inl ⟨_, rfl, hc5⟩⟩ rfl ?_
      refine GL.val trivial rfl (OV.pickF (b := r1) (v := .bool false) rfl hc5 rfl) ?_
      exact GL.jump0 (fun _ _ h => h) () rfl ⟨(by rw [hc5]; rfl), rfl, rfl, rfl, rfl, trivial⟩
  refine GL.val trivial rfl (OV.assign (v := .bool (r1 && r3)) rfl) ?_
  refine GL.nil ?_
  refine GC.cond (b := r1 && r3) rfl (fun hc6 => ?_) (fun hc6 => ?_)
  · replace h := And.left h hc6
    refine GC.seq ?_
    obtain ⟨Hs7, hle8, h⟩ := h
    refine GC.any (Hs := Hs7) (by kernel_rfl) hle8 ?_
    refine GA.take 0 rfl (by kernel_rfl) (by kernel_rfl) (by kernel_rfl) (fun _ _ _ h => False.elim h) trivial rfl (OV.move (v := sv p_b) rfl) ?_
    obtain ⟨h10, h11, h12, t9, h13, h⟩ := h
    refine GA.take 1 rfl (by kernel_rfl) (by kernel_rfl) (by kernel_rfl) (fun _ _ _ h => False.elim h) trivial rfl (OV.sliceStr (s := p_b) h10 h11 h12 h13 rfl rfl rfl rfl rfl rfl) ?_
    refine GA.take 2 rfl (by kernel_rfl) (by kernel_rfl) (by kernel_rfl) (fun _ _ _ h => False.elim h) trivial rfl (OV.move (v := sv p_a) rfl) ?_
    obtain ⟨h16, h17, h18, t15, h19, h⟩ := h
    refine GA.take 3 rfl (by kernel_rfl) (by kernel_rfl) (by kernel_rfl) (fun _ _ _ h => False.elim h) trivial rfl (OV.sliceStr (s := p_a) h16 h17 h18 h19 rfl rfl rfl rfl rfl rfl) ?_
    refine GA.eff 4 rfl (by kernel_rfl) ?_
    refine GL.call h trivial rfl ok_value_bigs (vs := [sv t9, sv t15]) rfl ?_
    rintro _ H23 ⟨r22, rfl, h⟩
    obtain ⟨hle21, h⟩ := h
    refine GA.back hle21 ?_
    refine GA.take 5 rfl (by kernel_rfl) (by kernel_rfl) (by kernel_rfl) (fun _ _ _ h => False.elim h) trivial rfl (OV.assign (v := .int .i64 r22) rfl) ?_
    refine GA.done (by kernel_rfl) ?_
    refine GL.nil ?_
    exact GC.ret (fun _ _ hf hs => post_tmp1 rfl rfl hf hs ⟨r22, rfl, h⟩)
  · replace h := And.right h hc6
    refine GC.seq ?_
    refine GC.region ?_
    refine GL.val trivial rfl (OV.move (v := .bool r1) rfl) ?_
    refine GL.val trivial rfl (OV.assign (v := .bool r1) rfl) ?_
    refine GL.nil ?_
    refine GC.cond (b := r1) rfl (fun hc24 => ?_) (fun hc24 => ?_)
    · replace h := And.left h hc24
      refine GC.seq ?_
      refine GC.region ?_
      refine GL.val trivial rfl (OV.assign (v := .int .i64 (-1)) rfl) ?_
      refine GL.nil ?_
      exact GC.ret (fun _ _ hf hs => post_tmp1 rfl rfl hf hs ⟨(-1), rfl, h⟩)
    · replace h := And.right h hc24
      refine GC.seq ?_
      refine GC.region ?_
      refine GL.val trivial rfl (OV.move (v := .bool r3) rfl) ?_
      refine GL.val trivial rfl (OV.assign (v := .bool r3) rfl) ?_
      refine GL.nil ?_
      refine GC.cond (b := r3) rfl (fun hc25 => ?_) (fun hc25 => ?_)
      · replace h := And.left h hc25
        refine GC.seq ?_
        refine GC.region ?_
        refine GL.val trivial rfl (OV.assign (v := .int .i64 1) rfl) ?_
        refine GL.nil ?_
        exact GC.ret (fun _ _ hf hs => post_tmp1 rfl rfl hf hs ⟨1, rfl, h⟩)
      · replace h := And.right h hc25
        refine GC.skip_to (fun _ _ h => h) ?_
        refine GC.seq ?_
        refine GC.region ?_
        refine GL.val trivial rfl (OV.move (v := sv p_a) rfl) ?_
        refine GL.val trivial rfl (OV.lenStr (s := p_a) rfl rfl) ?_
        refine GL.val trivial rfl (OV.move (v := sv p_b) rfl) ?_
        refine GL.val trivial rfl (OV.lenStr (s := p_b) rfl rfl) ?_
        refine GL.call h trivial rfl ok_cmp_Compare_int (vs := [.int .i64 (List.length p_a : Int), .int .i64 (List.length p_b : Int)]) rfl ?_
        rintro _ H27 ⟨r26, rfl, h⟩
        refine GL.val trivial rfl (OV.move (v := sv p_a) rfl) ?_
        refine GL.val trivial rfl (OV.move (v := sv p_b) rfl) ?_
        refine GL.call h trivial rfl ok_cmp_Compare_string (vs := [sv p_a, sv p_b]) rfl ?_
        rintro _ H29 ⟨r28, rfl, h⟩
        refine GL.buildSlice (cs := [.int .i64 r26, .int .i64 r28]) h trivial rfl (vs := [(0, .int .i64 r26), (1, .int .i64 r28)]) rfl ⟨3, fun _ => by kernel_rfl⟩ ?_
        intro b30 H31 h
        refine GL.call h trivial rfl ok_cmp_Or_int (vs := [slv (Sl.of (some (b30, 0)) 2 2)]) rfl ?_
        rintro _ H33 ⟨r32, rfl, h⟩
        refine GL.val trivial rfl (OV.assign (v := .int .i64 r32) rfl) ?_
        refine GL.nil ?_
        exact GC.ret (fun _ _ hf hs => post_tmp1 rfl rfl hf hs ⟨r32, rfl, h⟩)

def sh_cmp_Compare_string (C : Ctx) (p_x : Str) (p_y : Str) (K : Int → Heap → Prop) (H : Heap) : Prop :=
  c_cmp_isNaN_string C p_x (fun r1 H2 =>
 c_cmp_isNaN_string C p_y (fun r3 H4 =>
 ift r1
 (ift r3
 (K 0 H4)
 (K (-1) H4))
 (ift r3
 (K 1 H4)
 (ift (slt p_x p_y)
 (K (-1) H4)
 (ift (!(slt p_x p_y || (p_x == p_y)))
 (K 1 H4)
 (K 0 H4))))) H2) H

theorem ad_cmp_Compare_string (C : Ctx) (p_x : Str) (p_y : Str) (K : Int → Heap → Prop) (H : Heap) (h : sh_cmp_Compare_string C p_x p_y K H) : c_cmp_Compare_string C p_x p_y K H := by
  refine Spec.enter Tryz.func65 rfl Tryz.ntmps65 rfl ?_
  refine GC.sub [(0, sv p_x), (1, sv p_y)] ⟨rfl, rfl, trivial⟩ ?_
  refine GC.seq ?_
  refine GC.region ?_
  refine GL.val trivial rfl (OV.assign (v := .int .i64 0) rfl) ?_
  refine GL.nil ?_
  refine GC.seq ?_
  refine GC.region ?_
  refine GL.val trivial rfl (OV.move (v := sv p_x) rfl) ?_
  refine GL.call h trivial rfl ok_cmp_isNaN_string (vs := [sv p_x]) rfl ?_
  rintro _ H2 ⟨r1, rfl, h⟩
  refine GL.val trivial rfl (OV.assign (v := .bool r1) rfl) ?_
  refine GL.nil ?_
  refine GC.seq ?_
  refine GC.region ?_
  refine GL.val trivial rfl (OV.move (v := sv p_y) rfl) ?_
  refine GL.call h trivial rfl ok_cmp_isNaN_string (vs := [sv p_y]) rfl ?_
  rintro _ H4 ⟨r3, rfl, h⟩
  refine GL.val trivial rfl (OV.assign (v := .bool r3) rfl) ?_
  refine GL.nil ?_
  refine GC.seq ?_
  refine GC.seq ?_
  refine GC.region ?_
  refine GL.val trivial rfl (OV.move (v := .bool r1) rfl) ?_
  refine GL.nil ?_
  refine GC.cond (b := r1) rfl (fun hc5 => ?_) (fun hc5 => ?_)
  · replace h := And.left h hc5
    refine GC.seq ?_
    refine GC.seq ?_
    refine GC.region ?_
    refine GL.val trivial rfl (OV.move (v := .bool r3) rfl) ?_
    refine GL.nil ?_
    refine GC.cond (b := r3) rfl (fun hc6 => ?_) (fun hc6 => ?_)
    · replace h := And.left h hc6
      refine GC.seq ?_
      refine GC.region ?_
      refine GL.val trivial rfl (OV.assign (v := .int .i64 0) rfl) ?_
      refine GL.nil ?_
      exact GC.ret (fun _ _ hf hs => post_tmp1 rfl rfl hf hs ⟨0, rfl, h⟩)
    · replace h := And.right h hc6
      refine GC.skip ?_
      refine GC.seq ?_
      refine GC.region ?_
      refine GL.val trivial rfl (OV.assign (v := .int .i64 (-1)) rfl) ?_
      refine GL.nil ?_
      exact GC.ret (fun _ _ hf hs => post_tmp1 rfl rfl hf hs ⟨(-1), rfl, h⟩)
  · replace h := And.right h hc5
    refine GC.skip ?_
    refine GC.seq ?_
    refine GC.seq ?_
    refine GC.region ?_
    refine GL.val trivial rfl (OV.move (v := .bool r3) rfl) ?_
    refine GL.nil ?_
    refine GC.cond (b := r3) rfl (fun hc7 => ?_) (fun hc7 => ?_)
    · replace h := And.left h hc7
      refine GC.seq ?_
      refine GC.region ?_
      refine GL.val trivial rfl (OV.assign (v := .int .i64 1) rfl) ?_
      refine GL.nil ?_
      exact GC.ret (fun _ _ hf hs => post_tmp1 rfl rfl hf hs ⟨1, rfl, h⟩)
    · replace h := And.right h hc7
      refine GC.skip ?_
      refine GC.seq ?_
      refine GC.seq ?_
      refine GC.region ?_
      refine GL.val trivial rfl (OV.move (v := sv p_x) rfl) ?_
      refine GL.val trivial rfl (OV.move (v := sv p_y) rfl) ?_
      refine GL.val trivial rfl (OV.sbin (a := p_x) (b := p_y) (v := .bool (slt p_x p_y)) rfl rfl rfl) ?_
      refine GL.nil ?_
      refine GC.cond (b := slt p_x p_y) rfl (fun hc8 => ?_) (fun hc8 => ?_)
      · replace h := And.left h hc8
        refine GC.seq ?_
        refine GC.region ?_
        refine GL.val trivial rfl (OV.assign (v := .int .i64 (-1)) rfl) ?_
        refine GL.nil ?_
        exact GC.ret (fun _ _ hf hs => post_tmp1 rfl rfl hf hs ⟨(-1), rfl, h⟩)
      · replace h := And.right h hc8
        refine GC.skip ?_
        refine GC.seq ?_
        refine GC.seq ?_
        refine GC.region ?_
        refine GL.val trivial rfl (OV.move (v := sv p_x) rfl) ?_
        refine GL.val trivial rfl (OV.move (v := sv p_y) rfl) ?_
        refine GL.val trivial rfl (OV.sbin (a := p_x) (b := p_y) (v := .bool (!(slt p_x p_y || (p_x == p_y)))) rfl rfl rfl) ?_
        refine GL.nil ?_
        refine GC.cond (b := !(slt p_x p_y || (p_x == p_y))) rfl (fun hc9 => ?_) (fun hc9 => ?_)
        · replace h := And.left h hc9
          refine GC.seq ?_
          refine GC.region ?_
          refine GL.val trivial rfl (OV.assign (v := .int .i64 1) rfl) ?_
          refine GL.nil ?_
          exact GC.ret (fun _ _ hf hs => post_tmp1 rfl rfl hf hs ⟨1, rfl, h⟩)
        · replace h := And.right h hc9
          refine GC.skip ?_
          refine GC.seq ?_
          refine GC.region ?_
          refine GL.val trivial rfl (OV.assign (v := .int .i64 0) rfl) ?_
          refine GL.nil ?_
          exact GC.ret (fun _ _ hf hs => post_tmp1 rfl rfl hf hs ⟨0, rfl, h⟩)

def sh_cmp_Or_int (C : Ctx) (p_vals : Sl) (K : Int → Heap → Prop) (H : Heap) : Prop :=
  lp (α := Int) 0 H (fun x1 J2 H3 =>
 ift (decide ((x1 : Int) < (Sl.len p_vals : Int)))
 (ixa p_vals x1 fun p5 =>
 ldI H3 .i64 (p5.1, p5.2 + (x1 : Int).toNat * 1) fun x10 =>
 ift ((x10 : Int) != 0)
 (K x10 H3)
 (J2 (w .i64 (x1 + 1)) H3))
 (K 0 H3))

theorem ad_cmp_Or_int (C : Ctx) (p_vals : Sl) (K : Int → Heap → Prop) (H : Heap) (h : sh_cmp_Or_int C p_vals K H) : c_cmp_Or_int C p_vals K H := by
  refine Spec.enter Tryz.func66 rfl Tryz.ntmps66 rfl ?_
  refine GC.sub [(0, slv p_vals)] ⟨rfl, trivial⟩ ?_
  refine GC.seq ?_
  refine GC.region ?_
  refine GL.val trivial rfl (OV.assign (v := .int .i64 0) rfl) ?_
  refine GL.nil ?_
  refine GC.seq ?_
  refine GC.region ?_
  refine GL.val trivial rfl (OV.assign (v := .int .i64 0) rfl) ?_
  refine GL.nil ?_
  refine GC.seq ?_
  refine GC.seq ?_
  refine GC.region ?_
  refine GL.val trivial rfl (OV.move (v := slv p_vals) rfl) ?_
  refine GL.val trivial rfl (OV.lenSl (s := p_vals) rfl rfl) ?_
  refine GL.val trivial rfl (OV.move (v := .int .i64 0) rfl) ?_
  refine GL.nil ?_
  refine GC.block ?_
  refine GC.loop (α := Int) h (fun x1 => [(8, .int .i64 x1), (3, .int .i64 0), (6, slv p_vals), (7, .int .i64 (Sl.len p_vals : Int))]) ⟨rfl, rfl, rfl, rfl, trivial⟩ ?_
  intro x1 H3 J2 h
  refine GC.seq ?_
  refine GC.region ?_
  refine GL.val trivial rfl (OV.ibin (v := .bool (decide ((x1 : Int) < (Sl.len p_vals : Int)))) rfl rfl rfl) ?_
  refine GL.nil ?_
  refine GC.seq ?_
  refine GC.cond (b := decide ((x1 : Int) < (Sl.len p_vals : Int))) rfl (fun hc4 => ?_) (fun hc4 => ?_)
  · replace h := And.left h hc4
    refine GC.skip ?_
    refine GC.seq ?_
    refine GC.block ?_
    refine GC.seq ?_
    refine GC.region ?_
    obtain ⟨p5, ha6, hb7, hc8, hd9, h⟩ := h
    refine GL.val trivial rfl (OV.indexAddr (s := p_vals) rfl rfl rfl rfl ha6 hb7 hc8 hd9) ?_
    obtain ⟨x10, hr11, h⟩ := h
    refine GL.val trivial rfl (OV.load (p := (p5.1, p5.2 + (x1 : Int).toNat * 1)) rfl rfl hr11) ?_
    refine GL.val trivial rfl (OV.assign (v := .int .i64 x10) rfl) ?_
    refine GL.nil ?_
    refine GC.seq ?_
    refine GC.region ?_
    refine GL.val trivial rfl (OV.move (v := .int .i64 x10) rfl) ?_
    refine GL.val trivial rfl (OV.move (v := .int .i64 0) rfl) ?_
    refine GL.val trivial rfl (OV.ibin (v := .bool ((x10 : Int) != 0)) rfl rfl rfl) ?_
    refine GL.nil ?_
    refine GC.cond (b := (x10 : Int) != 0) rfl (fun hc12 => ?_) (fun hc12 => ?_)
    · replace h := And.left h hc12
      refine GC.seq ?_
      refine GC.region ?_
      refine GL.val trivial rfl (OV.move (v := .int .i64 x10) rfl) ?_
      refine GL.val trivial rfl (OV.assign (v := .int .i64 x10) rfl) ?_
      refine GL.nil ?_
      exact GC.ret (fun _ _ hf hs => post_tmp1 rfl rfl hf hs ⟨x10, rfl, h⟩)
    · replace h := And.right h hc12
      refine GC.skip_to (fun _ _ h => h) ?_
      refine GC.region ?_
      refine GL.val trivial rfl (OV.ibin (v := .int .i64 (w .i64 (x1 + 1))) rfl rfl rfl) ?_
      refine GL.val trivial rfl (OV.move (v := .int .i64 (w .i64 (x1 + 1))) rfl) ?_
      exact GL.jump (fun _ _ h => h) (w .i64 (x1 + 1)) h ⟨rfl, rfl, rfl, rfl, trivial⟩
  · replace h := And.right h hc4
    refine GC.exit_to (fun _ _ h => h) ?_
    refine GC.seq ?_
    refine GC.region ?_
    refine GL.val trivial rfl (OV.move (v := .int .i64 0) rfl) ?_
    refine GL.val trivial rfl (OV.assign (v := .int .i64 0) rfl) ?_
    refine GL.nil ?_
    exact GC.ret (fun _ _ hf hs => post_tmp1 rfl rfl hf hs ⟨0, rfl, h⟩)

def sh_cmp_Compare_int64 (C : Ctx) (p_x : Int) (p_y : Int) (K : Int → Heap → Prop) (H : Heap) : Prop :=
  c_cmp_isNaN_int64 C p_x (fun r1 H2 =>
 c_cmp_isNaN_int64 C p_y (fun r3 H4 =>
 ift r1
 (ift r3
 (K 0 H4)
 (K (-1) H4))
 (ift r3
 (K 1 H4)
 (ift (decide ((p_x : Int) < p_y))
 (K (-1) H4)
 (ift (decide ((p_x : Int) > p_y))
 (K 1 H4)
 (K 0 H4))))) H2) H

theorem ad_cmp_Compare_int64 (C : Ctx) (p_x : Int) (p_y : Int) (K : Int → Heap → Prop) (H : Heap) (h : sh_cmp_Compare_int64 C p_x p_y K H) : c_cmp_Compare_int64 C p_x p_y K H := by
  refine Spec.enter Tryz.func67 rfl Tryz.ntmps67 rfl ?_
  refine GC.sub [(0, .int .i64 p_x), (1, .int .i64 p_y)] ⟨rfl, rfl, trivial⟩ ?_
  refine GC.seq ?_
  refine GC.region ?_
  refine GL.val trivial rfl (OV.assign (v := .int .i64 0) rfl) ?_
  refine GL.nil ?_
  refine GC.seq ?_
  refine GC.region ?_
  refine GL.val trivial rfl (OV.move (v := .int .i64 p_x) rfl) ?_
  refine GL.call h trivial rfl ok_cmp_isNaN_int64 (vs := [.int .i64 p_x]) rfl ?_
  rintro _ H2 ⟨r1, rfl, h⟩
  refine GL.val trivial rfl (OV.assign (v := .bool r1) rfl) ?_
  refine GL.nil ?_
  refine GC.seq ?_
  refine GC.region ?_
  refine GL.val trivial rfl (OV.move (v := .int .i64 p_y) rfl) ?_
  refine GL.call h trivial rfl ok_cmp_isNaN_int64 (vs := [.int .i64 p_y]) rfl ?_
  rintro _ H4 ⟨r3, rfl, h⟩
  refine GL.val trivial rfl (OV.assign (v := .bool r3) rfl) ?_
  refine GL.nil ?_
  refine GC.seq ?_
  refine GC.seq ?_
  refine GC.region ?_
  refine GL.val trivial rfl (OV.move (v := .bool r1) rfl) ?_
  refine GL.nil ?_
  refine GC.cond (b := r1) rfl (fun hc5 => ?_) (fun hc5 => ?_)
  · replace h := And.left h hc5
    refine GC.seq ?_
    refine GC.seq ?_
    refine GC.region ?_
    refine GL.val trivial rfl (OV.move (v := .bool r3) rfl) ?_
    refine GL.nil ?_
    refine GC.cond (b := r3) rfl (fun hc6 => ?_) (fun hc6 => ?_)
    · replace h := And.left h hc6
      refine GC.seq ?_
      refine GC.region ?_
      refine GL.val trivial rfl (OV.assign (v := .int .i64 0) rfl) ?_
      refine GL.nil ?_
      exact GC.ret (fun _ _ hf hs => post_tmp1 rfl rfl hf hs ⟨0, rfl, h⟩)
    · replace h := And.right h hc6
      refine GC.skip ?_
      refine GC.seq ?_
      refine GC.region ?_
      refine GL.val trivial rfl (OV.assign (v := .int .i64 (-1)) rfl) ?_
      refine GL.nil ?_
      exact GC.ret (fun _ _ hf hs => post_tmp1 rfl rfl hf hs ⟨(-1), rfl, h⟩)
  · replace h := And.right h hc5
    refine GC.skip ?_
    refine GC.seq ?_
    refine GC.seq ?_
    refine GC.region ?_
    refine GL.val trivial rfl (OV.move (v := .bool r3) rfl) ?_
    refine GL.nil ?_
    refine GC.cond (b := r3) rfl (fun hc7 => ?_) (fun hc7 => ?_)
    · replace h := And.left h hc7
      refine GC.seq ?_
      refine GC.region ?_
      refine GL.val trivial rfl (OV.assign (v := .int .i64 1) rfl) ?_
      refine GL.nil ?_
      exact GC.ret (fun _ _ hf hs => post_tmp1 rfl rfl hf hs ⟨1, rfl, h⟩)
    · replace h := And.right h hc7
      refine GC.skip ?_
      refine GC.seq ?_
      refine GC.seq ?_
      refine GC.region ?_
      refine GL.val trivial rfl (OV.move (v := .int .i64 p_x) rfl) ?_
      refine GL.val trivial rfl (OV.move (v := .int .i64 p_y) rfl) ?_
      refine GL.val trivial rfl (OV.ibin (v := .bool (decide ((p_x : Int) < p_y))) rfl rfl rfl) ?_
      refine GL.nil ?_
      refine GC.cond (b := decide ((p_x : Int) < p_y)) rfl (fun hc8 => ?_) (fun hc8 => ?_)
      · replace h := And.left h hc8
        refine GC.seq ?_
        refine GC.region ?_
        refine GL.val trivial rfl (OV.assign (v := .int .i64 (-1)) rfl) ?_
        refine GL.nil ?_
        exact GC.ret (fun _ _ hf hs => post_tmp1 rfl rfl hf hs ⟨(-1), rfl, h⟩)
      · replace h := And.right h hc8
        refine GC.skip ?_
        refine GC.seq ?_
        refine GC.seq ?_
        refine GC.region ?_
        refine GL.val trivial rfl (OV.move (v := .int .i64 p_x) rfl) ?_
        refine GL.val trivial rfl (OV.move (v := .int .i64 p_y) rfl) ?_
        refine GL.val trivial rfl (OV.ibin (v := .bool (decide ((p_x : Int) > p_y))) rfl rfl rfl) ?_
        refine GL.nil ?_
        refine GC.cond (b := decide ((p_x : Int) > p_y)) rfl (fun hc9 => ?_) (fun hc9 => ?_)
        · replace h := And.left h hc9
          refine GC.seq ?_
          refine GC.region ?_
          refine GL.val trivial rfl (OV.assign (v := .int .i64 1) rfl) ?_
          refine GL.nil ?_
          exact GC.ret (fun _ _ hf hs => post_tmp1 rfl rfl hf hs ⟨1, rfl, h⟩)
        · replace h := And.right h hc9
          refine GC.skip ?_
          refine GC.seq ?_
          refine GC.region ?_
          refine GL.val trivial rfl (OV.assign (v := .int .i64 0) rfl) ?_
          refine GL.nil ?_
          exact GC.ret (fun _ _ hf hs => post_tmp1 rfl rfl hf hs ⟨0, rfl, h⟩)

def sh_ref02_Number (C : Ctx) (p_s : Str) (K : Bool → Heap → Prop) (H : Heap) : Prop :=
  jn (α := Str) (fun x2 H3 =>
 jn (α := Bool) (fun b24 H36 =>
 ift b24
 (K false H36)
 (lp (α := Int) 0 H36 (fun x38 J39 H40 =>
 ift (decide ((x38 : Int) < (List.length x2 : Int)))
 (ixs x2 x38 fun c42 =>
 jn (α := Bool) (fun b45 H52 =>
 ift b45
 (K false H52)
 (J39 (w .i64 (x38 + 1)) H52))
 (fun J46 => ift (decide (((c42.toNat : Int) : Int) < 48))
 (J46 true H40)
 (ixs x2 x38 fun c49 =>
 J46 (decide (((c49.toNat : Int) : Int) > 57)) H40)))
 (K true H40))))
 (fun J25 => ift (x2 == ([] : Str))
 (J25 true H3)
 (jn (α := Bool) (fun b28 H35 =>
 J25 b28 H35)
 (fun J29 => ift (decide (((List.length x2 : Int) : Int) > 1))
 (ixs x2 0 fun c32 =>
 J29 (((c32.toNat : Int) : Int) == 48) H3)
 (J29 false H3)))))
 (fun J1 => jn (α := Bool) (fun b5 H12 =>
 ift b5
 (slS p_s 1 (List.length p_s : Int) fun t14 =>
 ixs t14 0 fun c20 =>
 ift (((c20.toNat : Int) : Int) == 48)
 (K false H12)
 (J1 t14 H12))
 (J1 p_s H12))
 (fun J6 => ift (decide (((List.length p_s : Int) : Int) > 1))
 (ixs p_s 0 fun c9 =>
 J6 (((c9.toNat : Int) : Int) == 45) H)
 (J6 false H)))

theorem ad_ref02_Number (C : Ctx) (p_s : Str) (K : Bool → Heap → Prop) (H : Heap) (h : sh_ref02_Number C p_s K H) : c_ref02_Number C p_s K H := by
  refine Spec.enter Tryz.func68 rfl Tryz.ntmps68 rfl ?_
  refine GC.sub [(0, sv p_s)] ⟨rfl, trivial⟩ ?_
  refine GC.seq ?_
  refine GC.region ?_
  refine GL.val trivial rfl (OV.assign (v := .bool false) rfl) ?_
  refine GL.nil ?_
  obtain ⟨J1, h, hR4⟩ := h
  refine GC.join (α := Str) J1 (fun x2 => [(0, sv x2)]) ?_ ?_
  · skip
    refine GC.seq ?_
    refine GC.region ?_
    refine GL.val trivial rfl (OV.move (v := sv p_s) rfl) ?_
    refine GL.val trivial rfl (OV.lenStr (s := p_s) rfl rfl) ?_
    refine GL.val trivial rfl (OV.ibin (v := .bool (decide (((List.length p_s : Int) : Int) > 1))) rfl rfl rfl) ?_
    refine GL.val trivial rfl (OV.move (v := .bool (decide (((List.length p_s : Int) : Int) > 1))) rfl) ?_
    obtain ⟨J6, h, hR7⟩ := h
    refine GL.cut (α := Bool) 4 J6 (fun b5 => [(11, .bool b5), (0, sv p_s)]) ?_ ?_
    · rcases Bool.eq_false_or_eq_true (decide (((List.length p_s : Int) : Int) > 1)) with hc8 | hc8
      · skip
        replace h := And.left h hc8
        refine GL.val ⟨_, _, rfl, rfl, hc8⟩ rfl (OV.move (v := sv p_s) rfl) ?_
        obtain ⟨c9, ha10, hb11, h⟩ := h
        refine GL.val ⟨_, _, rfl, rfl, hc8⟩ rfl (OV.indexStr (s := p_s) rfl rfl rfl ha10 hb11) ?_
        refine GL.val ⟨_, _, rfl, rfl, hc8⟩ rfl (OV.ibin (v := .bool (((c9.toNat : Int) : Int) == 45)) rfl rfl rfl) ?_
        refine GL.val trivial rfl (OV.pickT (b := decide (((List.length p_s : Int) : Int) > 1)) (v := .bool (((c9.toNat : Int) : Int) == 45)) rfl hc8 rfl) ?_
        exact GL.jump (fun _ _ h => h) (((c9.toNat : Int) : Int) == 45) h ⟨rfl, rfl, trivial⟩
      · skip
        replace h := And.right h hc8
        refine GL.skip ⟨_, rfl, .inl ⟨_, rfl, hc8⟩⟩ rfl ?_
        refine GL.skip ⟨_, rfl, .inl ⟨_, rfl, hc8⟩⟩ rfl ?_
        refine GL.skip ⟨_, rfl, .inl ⟨_, rfl, hc8⟩⟩ rfl ?_
        refine GL.val trivial rfl (OV.pickF (b := decide (((List.length p_s : Int) : Int) > 1)) (v := .bool false) rfl hc8 rfl) ?_
        exact GL.jump (fun _ _ h => h) false h ⟨rfl, rfl, trivial⟩
    intro b5 H12 h
    replace h := hR7 b5 H12 h
    refine GL.nil ?_
    refine GC.cond (b := b5) rfl (fun hc13 => ?_) (fun hc13 => ?_)
    · replace h := And.left h hc13
      refine GC.seq ?_
      refine GC.region ?_
      refine GL.val trivial rfl (OV.move (v := sv p_s) rfl) ?_
      obtain ⟨h15, h16, h17, t14, h18, h⟩ := h
      refine GL.val trivial rfl (OV.sliceStr (s := p_s) h15 h16 h17 h18 rfl rfl rfl rfl rfl rfl) ?_
      refine GL.val trivial rfl (OV.assign (v := sv t14) rfl) ?_
      refine GL.nil ?_
      refine GC.seq ?_
      refine GC.region ?_
      refine GL.val trivial rfl (OV.move (v := sv t14) rfl) ?_
      obtain ⟨c20, ha21, hb22, h⟩ := h
      refine GL.val trivial rfl (OV.indexStr (s := t14) rfl rfl rfl ha21 hb22) ?_
      refine GL.val trivial rfl (OV.ibin (v := .bool (((c20.toNat : Int) : Int) == 48)) rfl rfl rfl) ?_
      refine GL.nil ?_
      refine GC.cond (b := ((c20.toNat : Int) : Int) == 48) rfl (fun hc23 => ?_) (fun hc23 => ?_)
      · replace h := And.left h hc23
        refine GC.seq ?_
        refine GC.region ?_
        refine GL.val trivial rfl (OV.assign (v := .bool false) rfl) ?_
        refine GL.nil ?_
        exact GC.ret (fun _ _ hf hs => post_tmp1 rfl rfl hf hs ⟨false, rfl, h⟩)
      · replace h := And.right h hc23
        exact GC.jump (fun _ _ h => h) t14 h ⟨rfl, trivial⟩
    · replace h := And.right h hc13
      exact GC.jump (fun _ _ h => h) p_s h ⟨rfl, trivial⟩
  · intro x2 H3 h
    replace h := hR4 x2 H3 h
    refine GC.seq ?_
    refine GC.seq ?_
    refine GC.region ?_
    refine GL.val trivial rfl (OV.move (v := sv x2) rfl) ?_
    refine GL.val trivial rfl (OV.sbin (a := x2) (b := ([] : Str)) (v := .bool (x2 == ([] : Str))) rfl rfl rfl) ?_
    refine GL.val trivial rfl (OV.move (v := .bool (x2 == ([] : Str))) rfl) ?_
    obtain ⟨J25, h, hR26⟩ := h
    refine GL.cut (α := Bool) 9 J25 (fun b24 => [(28, .bool b24), (0, sv x2)]) ?_ ?_
    · rcases Bool.eq_false_or_eq_true (x2 == ([] : Str)) with hc27 | hc27
      · skip
        replace h := And.left h hc27
        refine GL.skip ⟨_, rfl, .inl ⟨_, rfl, hc27⟩⟩ rfl ?_
        refine GL.skip ⟨_, rfl, .inl ⟨_, rfl, hc27⟩⟩ rfl ?_
        refine GL.skip ⟨_, rfl, .inl ⟨_, rfl, hc27⟩⟩ rfl ?_
        refine GL.skip ⟨_, rfl, .inl ⟨_, rfl, hc27⟩⟩ rfl ?_
        refine GL.skip ⟨_, rfl, .inr rfl⟩ rfl ?_
        refine GL.skip ⟨_, rfl, .inr rfl⟩ rfl ?_
        refine GL.skip ⟨_, rfl, .inr rfl⟩ rfl ?_
        refine GL.skip ⟨_, rfl, .inl ⟨_, rfl, hc27⟩⟩ rfl ?_
        refine GL.val trivial rfl (OV.pickT (b := x2 == ([] : Str)) (v := .bool true) rfl hc27 rfl) ?_
        exact GL.jump (fun _ _ h => h) true h ⟨rfl, rfl, trivial⟩
      · skip
        replace h := And.right h hc27
        refine GL.val ⟨_, _, rfl, rfl, hc27⟩ rfl (OV.move (v := sv x2) rfl) ?_
        refine GL.val ⟨_, _, rfl, rfl, hc27⟩ rfl (OV.lenStr (s := x2) rfl rfl) ?_
        refine GL.val ⟨_, _, rfl, rfl, hc27⟩ rfl (OV.ibin (v := .bool (decide (((List.length x2 : Int) : Int) > 1))) rfl rfl rfl) ?_
        refine GL.val ⟨_, _, rfl, rfl, hc27⟩ rfl (OV.move (v := .bool (decide (((List.length x2 : Int) : Int) > 1))) rfl) ?_
        obtain ⟨J29, h, hR30⟩ := h
        refine GL.cut (α := Bool) 4 J29 (fun b28 => [(27, .bool b28), (0, sv x2), (19, .bool (x2 == ([] : Str)))]) ?_ ?_
        · rcases Bool.eq_false_or_eq_true (decide (((List.length x2 : Int) : Int) > 1)) with hc31 | hc31
          · skip
            replace h := And.left h hc31
            refine GL.val ⟨_, _, rfl, rfl, hc31⟩ rfl (OV.move (v := sv x2) rfl) ?_
            obtain ⟨c32, ha33, hb34, h⟩ := h
            refine GL.val ⟨_, _, rfl, rfl, hc31⟩ rfl (OV.indexStr (s := x2) rfl rfl rfl ha33 hb34) ?_
            refine GL.val ⟨_, _, rfl, rfl, hc31⟩ rfl (OV.ibin (v := .bool (((c32.toNat : Int) : Int) == 48)) rfl rfl rfl) ?_
            refine GL.val ⟨_, _, rfl, rfl, hc27⟩ rfl (OV.pickT (b := decide (((List.length x2 : Int) : Int) > 1)) (v := .bool (((c32.toNat : Int) : Int) == 48)) rfl hc31 rfl) ?_
            exact GL.jump (fun _ _ h => h) (((c32.toNat : Int) : Int) == 48) h ⟨rfl, rfl, rfl, trivial⟩
          · skip
            replace h := And.right h hc31
            refine GL.skip ⟨_, rfl, .inl ⟨_, rfl, hc31⟩⟩ rfl ?_
            refine GL.skip ⟨_, rfl, .inl ⟨_, rfl, hc31⟩⟩ rfl ?_
            refine GL.skip ⟨_, rfl, .inl ⟨_, rfl, hc31⟩⟩ rfl ?_
            refine GL.val ⟨_, _, rfl, rfl, hc27⟩ rfl (OV.pickF (b := decide (((List.length x2 : Int) : Int) > 1)) (v := .bool false) rfl hc31 rfl) ?_
            exact GL.jump (fun _ _ h => h) false h ⟨rfl, rfl, rfl, trivial⟩
        intro b28 H35 h
        replace h := hR30 b28 H35 h
        refine GL.val trivial rfl (OV.pickF (b := x2 == ([] : Str)) (v := .bool b28) rfl hc27 rfl) ?_
        exact GL.jump (fun _ _ h => h) b28 h ⟨rfl, rfl, trivial⟩
    intro b24 H36 h
    replace h := hR26 b24 H36 h
    refine GL.nil ?_
    refine GC.cond (b := b24) rfl (fun hc37 => ?_) (fun hc37 => ?_)
    · replace h := And.left h hc37
      refine GC.seq ?_
      refine GC.region ?_
      refine GL.val trivial rfl (OV.assign (v := .bool false) rfl) ?_
      refine GL.nil ?_
      exact GC.ret (fun _ _ hf hs => post_tmp1 rfl rfl hf hs ⟨false, rfl, h⟩)
    · replace h := And.right h hc37
      refine GC.skip ?_
      refine GC.seq ?_
      refine GC.seq ?_
      refine GC.region ?_
      refine GL.val trivial rfl (OV.assign (v := .int .i64 0) rfl) ?_
      refine GL.nil ?_
      refine GC.block ?_
      refine GC.loop (α := Int) h (fun x38 => [(3, .int .i64 x38), (0, sv x2)]) ⟨rfl, rfl, trivial⟩ ?_
      intro x38 H40 J39 h
      refine GC.seq ?_
      refine GC.seq ?_
      refine GC.region ?_
      refine GL.val trivial rfl (OV.move (v := .int .i64 x38) rfl) ?_
      refine GL.val trivial rfl (OV.move (v := sv x2) rfl) ?_
      refine GL.val trivial rfl (OV.lenStr (s := x2) rfl rfl) ?_
      refine GL.val trivial rfl (OV.ibin (v := .bool (decide ((x38 : Int) < (List.length x2 : Int)))) rfl rfl rfl) ?_
      refine GL.nil ?_
      refine GC.cond (b := decide ((x38 : Int) < (List.length x2 : Int))) rfl (fun hc41 => ?_) (fun hc41 => ?_)
      · replace h := And.left h hc41
        refine GC.skip ?_
        refine GC.seq ?_
        refine GC.block ?_
        refine GC.seq ?_
        refine GC.region ?_
        refine GL.val trivial rfl (OV.move (v := sv x2) rfl) ?_
        refine GL.val trivial rfl (OV.move (v := .int .i64 x38) rfl) ?_
        obtain ⟨c42, ha43, hb44, h⟩ := h
        refine GL.val trivial rfl (OV.indexStr (s := x2) rfl rfl rfl ha43 hb44) ?_
        refine GL.val trivial rfl (OV.ibin (v := .bool (decide (((c42.toNat : Int) : Int) < 48))) rfl rfl rfl) ?_
        refine GL.val trivial rfl (OV.move (v := .bool (decide (((c42.toNat : Int) : Int) < 48))) rfl) ?_
        obtain ⟨J46, h, hR47⟩ := h
        refine GL.cut (α := Bool) 5 J46 (fun b45 => [(44, .bool b45), (0, sv x2), (3, .int .i64 x38)]) ?_ ?_
        · rcases Bool.eq_false_or_eq_true (decide (((c42.toNat : Int) : Int) < 48)) with hc48 | hc48
          · skip
            replace h := And.left h hc48
            refine GL.skip ⟨_, rfl, .inl ⟨_, rfl, hc48⟩⟩ rfl ?_
            refine GL.skip ⟨_, rfl, .inl ⟨_, rfl, hc48⟩⟩ rfl ?_
            refine GL.skip ⟨_, rfl, .inl ⟨_, rfl, hc48⟩⟩ rfl ?_
            refine GL.skip ⟨_, rfl, .inl ⟨_, rfl, hc48⟩⟩ rfl ?_
            refine GL.val trivial rfl (OV.pickT (b := decide (((c42.toNat : Int) : Int) < 48)) (v := .bool true) rfl hc48 rfl) ?_
            exact GL.jump (fun _ _ h => h) true h ⟨rfl, rfl, rfl, trivial⟩
          · skip
            replace h := And.right h hc48
            refine GL.val ⟨_, _, rfl, rfl, hc48⟩ rfl (OV.move (v := sv x2) rfl) ?_
            refine GL.val ⟨_, _, rfl, rfl, hc48⟩ rfl (OV.move (v := .int .i64 x38) rfl) ?_
            obtain ⟨c49, ha50, hb51, h⟩ := h
            refine GL.val ⟨_, _, rfl, rfl, hc48⟩ rfl (OV.indexStr (s := x2) rfl rfl rfl ha50 hb51) ?_
            refine GL.val ⟨_, _, rfl, rfl, hc48⟩ rfl (OV.ibin (v := .bool (decide (((c49.toNat : Int) : Int) > 57))) rfl rfl rfl) ?_
            refine GL.val trivial rfl (OV.pickF (b := decide (((c42.toNat : Int) : Int) < 48)) (v := .bool (decide (((c49.toNat : Int) : Int) > 57))) rfl hc48 rfl) ?_
            exact GL.jump (fun _ _ h => h) (decide (((c49.toNat : Int) : Int) > 57)) h ⟨rfl, rfl, rfl, trivial⟩
        intro b45 H52 h
        replace h := hR47 b45 H52 h
        refine GL.nil ?_
        refine GC.cond (b := b45) rfl (fun hc53 => ?_) (fun hc53 => ?_)
        · replace h := And.left h hc53
          refine GC.seq ?_
          refine GC.region ?_
          refine GL.val trivial rfl (OV.assign (v := .bool false) rfl) ?_
          refine GL.nil ?_
          exact GC.ret (fun _ _ hf hs => post_tmp1 rfl rfl hf hs ⟨false, rfl, h⟩)
        · replace h := And.right h hc53
          refine GC.skip_to (fun _ _ h => h) ?_
          refine GC.region ?_
          refine GL.val trivial rfl (OV.move (v := .int .i64 x38) rfl) ?_
          refine GL.val trivial rfl (OV.ibin (v := .int .i64 (w .i64 (x38 + 1))) rfl rfl rfl) ?_
          refine GL.val trivial rfl (OV.assign (v := .int .i64 (w .i64 (x38 + 1))) rfl) ?_
          exact GL.jump (fun _ _ h => h) (w .i64 (x38 + 1)) h ⟨rfl, rfl, trivial⟩
      · replace h := And.right h hc41
        refine GC.exit_to (fun _ _ h => h) ?_
        refine GC.seq ?_
        refine GC.region ?_
        refine GL.val trivial rfl (OV.assign (v := .bool true) rfl) ?_
        refine GL.nil ?_
        exact GC.ret (fun _ _ hf hs => post_tmp1 rfl rfl hf hs ⟨true, rfl, h⟩)

def sh_ref02_Names (C : Ctx) (p_s : Str) (K : Bool → Heap → Prop) (H : Heap) : Prop :=
  ift ((p_s == ([116, 114, 117, 101] : Str)) || (p_s == ([102, 97, 108, 115, 101] : Str)))
 (K false H)
 (lp (α := Int) 0 H (fun x3 J4 H5 =>
 ift (decide ((x3 : Int) < (List.length p_s : Int)))
 (ixs p_s x3 fun c7 =>
 ift (((c7.toNat : Int) : Int) == 46)
 (slS p_s 0 x3 fun t11 =>
 c_ref02_Name C t11 (fun r17 H18 =>
 jn (α := Bool) (fun b19 H31 =>
 K b19 H31)
 (fun J20 => ift r17
 (slS p_s (w .i64 (x3 + 1)) (List.length p_s : Int) fun t23 =>
 c_ref02_Name C t23 (fun r29 H30 =>
 J20 r29 H30) H18)
 (J20 false H18))) H5)
 (J4 (w .i64 (x3 + 1)) H5))
 (c_ref02_Name C p_s (fun r32 H33 =>
 K r32 H33) H5)))

theorem ad_ref02_Names (C : Ctx) (p_s : Str) (K : Bool → Heap → Prop) (H : Heap) (h : sh_ref02_Names C p_s K H) : c_ref02_Names C p_s K H := by
  refine Spec.enter Tryz.func69 rfl Tryz.ntmps69 rfl ?_
  refine GC.sub [(0, sv p_s)] ⟨rfl, trivial⟩ ?_
  refine GC.seq ?_
  refine GC.region ?_
  refine GL.val trivial rfl (OV.assign (v := .bool false) rfl) ?_
  refine GL.nil ?_
  refine GC.seq ?_
  refine GC.seq ?_
  refine GC.region ?_
  refine GL.val trivial rfl (OV.move (v := sv p_s) rfl) ?_
  refine GL.val trivial rfl (OV.sbin (a := p_s) (b := ([116, 114, 117, 101] : Str)) (v := .bool (p_s == ([116, 114, 117, 101] : Str))) rfl rfl rfl) ?_
  refine GL.val trivial rfl (OV.move (v := .bool (p_s == ([116, 114, 117, 101] : Str))) rfl) ?_
  refine GL.cut0 3 [(9, .bool ((p_s == ([116, 114, 117, 101] : Str)) || (p_s == ([102, 97, 108, 115, 101] : Str)))), (0, sv p_s)] ?_ ?_
  · rcases Bool.eq_false_or_eq_true (p_s == ([116, 114, 117, 101] : Str)) with hc1 | hc1
    · skip
      refine GL.skip ⟨_, rfl, .inl ⟨_, rfl, hc1⟩⟩ rfl ?_
      refine GL.skip ⟨_, rfl, .inl ⟨_, rfl, hc1⟩⟩ rfl ?_
      refine GL.val trivial rfl (OV.pickT (b := p_s == ([116, 114, 117, 101] : Str)) (v := .bool true) rfl hc1 rfl) ?_
      exact GL.jump0 (fun _ _ h => h) () rfl ⟨(by rw [hc1]; rfl), rfl, trivial⟩
    · skip
      refine GL.val ⟨_, _, rfl, rfl, hc1⟩ rfl (OV.move (v := sv p_s) rfl) ?_
      refine GL.val ⟨_, _, rfl, rfl, hc1⟩ rfl (OV.sbin (a := p_s) (b := ([102, 97, 108, 115, 101] : Str)) (v := .bool (p_s == ([102, 97, 108, 115, 101] : Str))) rfl rfl rfl) ?_
      refine GL.val trivial rfl (OV.pickF (b := p_s == ([116, 114, 117, 101] : Str)) (v := .bool (p_s == ([102, 97, 108, 115, 101] : Str))) rfl hc1 rfl) ?_
      exact GL.jump0 (fun _ _ h => h) () rfl ⟨(by rw [hc1]; rfl), rfl, trivial⟩
  refine GL.nil ?_
  refine GC.cond (b := (p_s == ([116, 114, 117, 101] : Str)) || (p_s == ([102, 97, 108, 115, 101] : Str))) rfl (fun hc2 => ?_) (fun hc2 => ?_)
  · replace h := And.left h hc2
    refine GC.seq ?_
    refine GC.region ?_
    refine GL.val trivial rfl (OV.assign (v := .bool false) rfl) ?_
    refine GL.nil ?_
    exact GC.ret (fun _ _ hf hs => post_tmp1 rfl rfl hf hs ⟨false, rfl, h⟩)
  · replace h := And.right h hc2
    refine GC.skip ?_
    refine GC.seq ?_
    refine GC.seq ?_
    refine GC.region ?_
    refine GL.val trivial rfl (OV.assign (v := .int .i64 0) rfl) ?_
    refine GL.nil ?_
    refine GC.block ?_
    refine GC.loop (α := Int) h (fun x3 => [(3, .int .i64 x3), (0, sv p_s)]) ⟨rfl, rfl, trivial⟩ ?_
    intro x3 H5 J4 h
    refine GC.seq ?_
    refine GC.seq ?_
    refine GC.region ?_
    refine GL.val trivial rfl (OV.move (v := .int .i64 x3) rfl) ?_
    refine GL.val trivial rfl (OV.move (v := sv p_s) rfl) ?_
    refine GL.val trivial rfl (OV.lenStr (s := p_s) rfl rfl) ?_
    refine GL.val trivial rfl (OV.ibin (v := .bool (decide ((x3 : Int) < (List.length p_s : Int)))) rfl rfl rfl) ?_
    refine GL.nil ?_
    refine GC.cond (b := decide ((x3 : Int) < (List.length p_s : Int))) rfl (fun hc6 => ?_) (fun hc6 => ?_)
    · replace h := And.left h hc6
      refine GC.skip ?_
      refine GC.seq ?_
      refine GC.block ?_
      refine GC.seq ?_
      refine GC.region ?_
      refine GL.val trivial rfl (OV.move (v := sv p_s) rfl) ?_
      refine GL.val trivial rfl (OV.move (v := .int .i64 x3) rfl) ?_
      obtain ⟨c7, ha8, hb9, h⟩ := h
      refine GL.val trivial rfl (OV.indexStr (s := p_s) rfl rfl rfl ha8 hb9) ?_
      refine GL.val trivial rfl (OV.ibin (v := .bool (((c7.toNat : Int) : Int) == 46)) rfl rfl rfl) ?_
      refine GL.nil ?_
      refine GC.cond (b := ((c7.toNat : Int) : Int) == 46) rfl (fun hc10 => ?_) (fun hc10 => ?_)
      · replace h := And.left h hc10
        refine GC.seq ?_
        refine GC.region ?_
        refine GL.val trivial rfl (OV.move (v := sv p_s) rfl) ?_
        refine GL.val trivial rfl (OV.move (v := .int .i64 x3) rfl) ?_
        obtain ⟨h12, h13, h14, t11, h15, h⟩ := h
        refine GL.val trivial rfl (OV.sliceStr (s := p_s) h12 h13 h14 h15 rfl rfl rfl rfl rfl rfl) ?_
        refine GL.call h trivial rfl ok_ref02_Name (vs := [sv t11]) rfl ?_
        rintro _ H18 ⟨r17, rfl, h⟩
        refine GL.val trivial rfl (OV.move (v := .bool r17) rfl) ?_
        obtain ⟨J20, h, hR21⟩ := h
        refine GL.cut (α := Bool) 6 J20 (fun b19 => [(30, .bool b19)]) ?_ ?_
        · rcases Bool.eq_false_or_eq_true r17 with hc22 | hc22
          · skip
            replace h := And.left h hc22
            refine GL.val ⟨_, _, rfl, rfl, hc22⟩ rfl (OV.move (v := sv p_s) rfl) ?_
            refine GL.val ⟨_, _, rfl, rfl, hc22⟩ rfl (OV.move (v := .int .i64 x3) rfl) ?_
            refine GL.val ⟨_, _, rfl, rfl, hc22⟩ rfl (OV.ibin (v := .int .i64 (w .i64 (x3 + 1))) rfl rfl rfl) ?_
            obtain ⟨h24, h25, h26, t23, h27, h⟩ := h
            refine GL.val ⟨_, _, rfl, rfl, hc22⟩ rfl (OV.sliceStr (s := p_s) h24 h25 h26 h27 rfl rfl rfl rfl rfl rfl) ?_
            refine GL.call h ⟨_, _, rfl, rfl, hc22⟩ rfl ok_ref02_Name (vs := [sv t23]) rfl ?_
            rintro _ H30 ⟨r29, rfl, h⟩
            refine GL.val trivial rfl (OV.pickT (b := r17) (v := .bool r29) rfl hc22 rfl) ?_
            exact GL.jump (fun _ _ h => h) r29 h ⟨rfl, trivial⟩
          · skip
            replace h := And.right h hc22
            refine GL.skip ⟨_, rfl, .inl ⟨_, rfl, hc22⟩⟩ rfl ?_
            refine GL.skip ⟨_, rfl, .inl ⟨_, rfl, hc22⟩⟩ rfl ?_
            refine GL.skip ⟨_, rfl, .inl ⟨_, rfl, hc22⟩⟩ rfl ?_
            refine GL.skip ⟨_, rfl, .inl ⟨_, rfl, hc22⟩⟩ rfl ?_
            refine GL.skip ⟨_, rfl, .inl ⟨_, rfl, hc22⟩⟩ rfl ?_
            refine GL.val trivial rfl (OV.pickF (b := r17) (v := .bool false) rfl hc22 rfl) ?_
            exact GL.jump (fun _ _ h => h) false h ⟨rfl, trivial⟩
        intro b19 H31 h
        replace h := hR21 b19 H31 h
        refine GL.val trivial rfl (OV.assign (v := .bool b19) rfl) ?_
        refine GL.nil ?_
        exact GC.ret (fun _ _ hf hs => post_tmp1 rfl rfl hf hs ⟨b19, rfl, h⟩)
      · replace h := And.right h hc10
        refine GC.skip_to (fun _ _ h => h) ?_
        refine GC.region ?_
        refine GL.val trivial rfl (OV.move (v := .int .i64 x3) rfl) ?_
        refine GL.val trivial rfl (OV.ibin (v := .int .i64 (w .i64 (x3 + 1))) rfl rfl rfl) ?_
        refine GL.val trivial rfl (OV.assign (v := .int .i64 (w .i64 (x3 + 1))) rfl) ?_
        exact GL.jump (fun _ _ h => h) (w .i64 (x3 + 1)) h ⟨rfl, rfl, trivial⟩
    · replace h := And.right h hc6
      refine GC.exit_to (fun _ _ h => h) ?_
      refine GC.seq ?_
      refine GC.region ?_
      refine GL.val trivial rfl (OV.move (v := sv p_s) rfl) ?_
      refine GL.call h trivial rfl ok_ref02_Name (vs := [sv p_s]) rfl ?_
      rintro _ H33 ⟨r32, rfl, h⟩
      refine GL.val trivial rfl (OV.assign (v := .bool r32) rfl) ?_
      refine GL.nil ?_
      exact GC.ret (fun _ _ hf hs => post_tmp1 rfl rfl hf hs ⟨r32, rfl, h⟩)

def sh_ref02_Digits (C : Ctx) (p_s : Str) (K : Int → Heap → Prop) (H : Heap) : Prop :=
  ixs p_s 0 fun c1 =>
 ift (((c1.toNat : Int) : Int) == 45)
 (K (w .i64 ((List.length p_s : Int) - 1)) H)
 (K (List.length p_s : Int) H)

theorem ad_ref02_Digits (C : Ctx) (p_s : Str) (K : Int → Heap → Prop) (H : Heap) (h : sh_ref02_Digits C p_s K H) : c_ref02_Digits C p_s K H := by
  refine Spec.enter Tryz.func70 rfl Tryz.ntmps70 rfl ?_
  refine GC.sub [(0, sv p_s)] ⟨rfl, trivial⟩ ?_
  refine GC.seq ?_
  refine GC.region ?_
  refine GL.val trivial rfl (OV.assign (v := .int .i64 0) rfl) ?_
  refine GL.nil ?_
  refine GC.seq ?_
  refine GC.seq ?_
  refine GC.region ?_
  refine GL.val trivial rfl (OV.move (v := sv p_s) rfl) ?_
  obtain ⟨c1, ha2, hb3, h⟩ := h
  refine GL.val trivial rfl (OV.indexStr (s := p_s) rfl rfl rfl ha2 hb3) ?_
  refine GL.val trivial rfl (OV.ibin (v := .bool (((c1.toNat : Int) : Int) == 45)) rfl rfl rfl) ?_
  refine GL.nil ?_
  refine GC.cond (b := ((c1.toNat : Int) : Int) == 45) rfl (fun hc4 => ?_) (fun hc4 => ?_)
  · replace h := And.left h hc4
    refine GC.seq ?_
    refine GC.region ?_
    refine GL.val trivial rfl (OV.move (v := sv p_s) rfl) ?_
    refine GL.val trivial rfl (OV.lenStr (s := p_s) rfl rfl) ?_
    refine GL.val trivial rfl (OV.ibin (v := .int .i64 (w .i64 ((List.length p_s : Int) - 1))) rfl rfl rfl) ?_
    refine GL.val trivial rfl (OV.assign (v := .int .i64 (w .i64 ((List.length p_s : Int) - 1))) rfl) ?_
    refine GL.nil ?_
    exact GC.ret (fun _ _ hf hs => post_tmp1 rfl rfl hf hs ⟨(w .i64 ((List.length p_s : Int) - 1)), rfl, h⟩)
  · replace h := And.right h hc4
    refine GC.skip ?_
    refine GC.seq ?_
    refine GC.region ?_
    refine GL.val trivial rfl (OV.move (v := sv p_s) rfl) ?_
    refine GL.val trivial rfl (OV.lenStr (s := p_s) rfl rfl) ?_
    refine GL.val trivial rfl (OV.assign (v := .int .i64 (List.length p_s : Int)) rfl) ?_
    refine GL.nil ?_
    exact GC.ret (fun _ _ hf hs => post_tmp1 rfl rfl hf hs ⟨(List.length p_s : Int), rfl, h⟩)

def sh_slices_insertionSortCmpFunc_api_Value (C : Ctx) (p_data : Sl) (p_a : Int) (p_b : Int) (p_cmp : Value) (K : Heap → Prop) (H : Heap) : Prop :=
  lp (α := Int) (w .i64 (p_a + 1)) H (fun x1 J2 H3 =>
 ift (decide ((x1 : Int) < p_b))
 (lp (α := Int) x1 H3 (fun x5 J6 H7 =>
 jn (α := Bool) (fun x9 H10 =>
 ift x9
 (jn (α := Unit) (fun x34 H35 =>
 J6 (w .i64 (x5 - 1)) H35)
 (fun J33 => dr H10 fun Hs37 =>
 ixa p_data (w .i64 (x5 - 1)) fun p39 =>
 ixa p_data x5 fun p44 =>
 (ldL H10 (p39.1, p39.2 + (w .i64 (x5 - 1) : Int).toNat * 1) fun x50 =>
 Heap.le Hs37 H10 ∧
 ldL H10 (p44.1, p44.2 + (x5 : Int).toNat * 1) fun x53 =>
 Heap.le Hs37 H10 ∧
 ixa p_data x5 fun p55 =>
 st (p55.1, p55.2 + (x5 : Int).toNat * 1) (slv x50) (fun H61 =>
 Heap.le Hs37 H61 ∧
 ixa p_data (w .i64 (x5 - 1)) fun p62 =>
 st (p62.1, p62.2 + (w .i64 (x5 - 1) : Int).toNat * 1) (slv x53) (fun H67 =>
 J33 () H67) H61) H10) ∧
 (ldL H10 (p44.1, p44.2 + (x5 : Int).toNat * 1) fun x69 =>
 Heap.le Hs37 H10 ∧
 ldL H10 (p39.1, p39.2 + (w .i64 (x5 - 1) : Int).toNat * 1) fun x72 =>
 Heap.le Hs37 H10 ∧
 ixa p_data x5 fun p74 =>
 st (p74.1, p74.2 + (x5 : Int).toNat * 1) (slv x72) (fun H80 =>
 Heap.le Hs37 H80 ∧
 ixa p_data (w .i64 (x5 - 1)) fun p81 =>
 st (p81.1, p81.2 + (w .i64 (x5 - 1) : Int).toNat * 1) (slv x69) (fun H86 =>
 J33 () H86) H80) H10)))
 (J2 (w .i64 (x1 + 1)) H10))
 (fun J8 => dr H7 fun Hs12 =>
 ift (decide ((x5 : Int) > p_a))
 (ixa p_data x5 fun p15 =>
 ldL Hs12 (p15.1, p15.2 + (x5 : Int).toNat * 1) fun x20 =>
 ixa p_data (w .i64 (x5 - 1)) fun p22 =>
 ldL Hs12 (p22.1, p22.2 + (w .i64 (x5 - 1) : Int).toNat * 1) fun x27 =>
 callU Tryz.prog C p_cmp [slv x20, slv x27] H7 (fun v H31 => ∃ (r30 : Int), v = .int .i64 r30 ∧
 Heap.le Hs12 H31 ∧
 J8 (decide ((r30 : Int) < 0)) H31))
 (J8 false H7))))
 (K H3))

theorem ad_slices_insertionSortCmpFunc_api_Value (C : Ctx) (p_data : Sl) (p_a : Int) (p_b : Int) (p_cmp : Value) (K : Heap → Prop) (H : Heap) (h : sh_slices_insertionSortCmpFunc_api_Value C p_data p_a p_b p_cmp K H) : c_slices_insertionSortCmpFunc_api_Value C p_data p_a p_b p_cmp K H := by
  refine Spec.enter Tryz.func71 rfl Tryz.ntmps71 rfl ?_
  refine GC.sub [(0, slv p_data), (1, .int .i64 p_a), (2, .int .i64 p_b), (3, p_cmp)] ⟨rfl, rfl, rfl, rfl, trivial⟩ ?_
  refine GC.seq ?_
  refine GC.region ?_
  refine GL.val trivial rfl (OV.move (v := .int .i64 p_a) rfl) ?_
  refine GL.val trivial rfl (OV.ibin (v := .int .i64 (w .i64 (p_a + 1))) rfl rfl rfl) ?_
  refine GL.val trivial rfl (OV.assign (v := .int .i64 (w .i64 (p_a + 1))) rfl) ?_
  refine GL.nil ?_
  refine GC.block ?_
  refine GC.loop (α := Int) h (fun x1 => [(8, .int .i64 x1), (0, slv p_data), (1, .int .i64 p_a), (2, .int .i64 p_b), (3, p_cmp)]) ⟨rfl, rfl, rfl, rfl, rfl, trivial⟩ ?_
  intro x1 H3 J2 h
  refine GC.seq ?_
  refine GC.seq ?_
  refine GC.region ?_
  refine GL.val trivial rfl (OV.move (v := .int .i64 x1) rfl) ?_
  refine GL.val trivial rfl (OV.move (v := .int .i64 p_b) rfl) ?_
  refine GL.val trivial rfl (OV.ibin (v := .bool (decide ((x1 : Int) < p_b))) rfl rfl rfl) ?_
  refine GL.nil ?_
  refine GC.cond (b := decide ((x1 : Int) < p_b)) rfl (fun hc4 => ?_) (fun hc4 => ?_)
  · replace h := And.left h hc4
    refine GC.skip ?_
    refine GC.seq ?_
    refine GC.block ?_
    refine GC.seq ?_
    refine GC.region ?_
    refine GL.val trivial rfl (OV.move (v := .int .i64 x1) rfl) ?_
    refine GL.val trivial rfl (OV.assign (v := .int .i64 x1) rfl) ?_
    refine GL.nil ?_
    refine GC.block ?_
    refine GC.loop (α := Int) h (fun x5 => [(9, .int .i64 x5), (0, slv p_data), (1, .int .i64 p_a), (2, .int .i64 p_b), (3, p_cmp), (8, .int .i64 x1)]) ⟨rfl, rfl, rfl, rfl, rfl, rfl, trivial⟩ ?_
    intro x5 H7 J6 h
    refine GC.seq ?_
    refine GC.seq ?_
    obtain ⟨J8, h, hR11⟩ := h
    refine GC.meet (α := Bool) J8 (fun x9 => [(34, .bool x9), (0, slv p_data), (1, .int .i64 p_a), (2, .int .i64 p_b), (3, p_cmp), (8, .int .i64 x1), (9, .int .i64 x5)]) ?_ ?_
    · skip
      obtain ⟨Hs12, hle13, h⟩ := h
      refine GC.any (Hs := Hs12) (by kernel_rfl) hle13 ?_
      refine GA.take 0 rfl (by kernel_rfl) (by kernel_rfl) (by kernel_rfl) (fun _ _ _ h => False.elim h) trivial rfl (OV.move (v := .int .i64 x5) rfl) ?_
      refine GA.take 1 rfl (by kernel_rfl) (by kernel_rfl) (by kernel_rfl) (fun _ _ _ h => False.elim h) trivial rfl (OV.move (v := .int .i64 p_a) rfl) ?_
      refine GA.take 2 rfl (by kernel_rfl) (by kernel_rfl) (by kernel_rfl) (fun _ _ _ h => False.elim h) trivial rfl (OV.ibin (v := .bool (decide ((x5 : Int) > p_a))) rfl rfl rfl) ?_
      refine GA.take 3 rfl (by kernel_rfl) (by kernel_rfl) (by kernel_rfl) (fun _ _ _ h => False.elim h) trivial rfl (OV.move (v := .bool (decide ((x5 : Int) > p_a))) rfl) ?_
      rcases Bool.eq_false_or_eq_true (decide ((x5 : Int) > p_a)) with hc14 | hc14
      · replace h := And.left h hc14
        refine GA.take 4 rfl (by kernel_rfl) (by kernel_rfl) (by kernel_rfl) (fun _ _ _ h => False.elim h) ⟨_, _, rfl, rfl, hc14⟩ rfl (OV.move (v := p_cmp) rfl) ?_
        refine GA.take 5 rfl (by kernel_rfl) (by kernel_rfl) (by kernel_rfl) (fun _ _ _ h => False.elim h) ⟨_, _, rfl, rfl, hc14⟩ rfl (OV.move (v := slv p_data) rfl) ?_
        refine GA.take 6 rfl (by kernel_rfl) (by kernel_rfl) (by kernel_rfl) (fun _ _ _ h => False.elim h) ⟨_, _, rfl, rfl, hc14⟩ rfl (OV.move (v := .int .i64 x5) rfl) ?_
        obtain ⟨p15, ha16, hb17, hc18, hd19, h⟩ := h
        refine GA.take 7 rfl (by kernel_rfl) (by kernel_rfl) (by kernel_rfl) (fun _ _ _ h => False.elim h) ⟨_, _, rfl, rfl, hc14⟩ rfl (OV.indexAddr (s := p_data) rfl rfl rfl rfl ha16 hb17 hc18 hd19) ?_
        obtain ⟨x20, hr21, h⟩ := h
        refine GA.take 8 rfl (by kernel_rfl) (by kernel_rfl) (by kernel_rfl) (fun _ _ _ h => False.elim h) ⟨_, _, rfl, rfl, hc14⟩ rfl (OV.load (p := (p15.1, p15.2 + (x5 : Int).toNat * 1)) rfl rfl hr21) ?_
        refine GA.take 9 rfl (by kernel_rfl) (by kernel_rfl) (by kernel_rfl) (fun _ _ _ h => False.elim h) ⟨_, _, rfl, rfl, hc14⟩ rfl (OV.move (v := slv p_data) rfl) ?_
        refine GA.take 10 rfl (by kernel_rfl) (by kernel_rfl) (by kernel_rfl) (fun _ _ _ h => False.elim h) ⟨_, _, rfl, rfl, hc14⟩ rfl (OV.move (v := .int .i64 x5) rfl) ?_
        refine GA.take 11 rfl (by kernel_rfl) (by kernel_rfl) (by kernel_rfl) (fun _ _ _ h => False.elim h) ⟨_, _, rfl, rfl, hc14⟩ rfl (OV.ibin (v := .int .i64 (w .i64 (x5 - 1))) rfl rfl rfl) ?_
        obtain ⟨p22, ha23, hb24, hc25, hd26, h⟩ := h
        refine GA.take 12 rfl (by kernel_rfl) (by kernel_rfl) (by kernel_rfl) (fun _ _ _ h => False.elim h) ⟨_, _, rfl, rfl, hc14⟩ rfl (OV.indexAddr (s := p_data) rfl rfl rfl rfl ha23 hb24 hc25 hd26) ?_
        obtain ⟨x27, hr28, h⟩ := h
        refine GA.take 13 rfl (by kernel_rfl) (by kernel_rfl) (by kernel_rfl) (fun _ _ _ h => False.elim h) ⟨_, _, rfl, rfl, hc14⟩ rfl (OV.load (p := (p22.1, p22.2 + (w .i64 (x5 - 1) : Int).toNat * 1)) rfl rfl hr28) ?_
        refine GA.eff 14 rfl (by kernel_rfl) ?_
        refine GL.callU (xv := p_cmp) (vs := [slv x20, slv x27]) h ⟨_, _, rfl, rfl, hc14⟩ rfl rfl rfl ?_
        rintro _ H31 ⟨r30, rfl, h⟩
        obtain ⟨hle29, h⟩ := h
        refine GA.back hle29 ?_
        refine GA.take 15 rfl (by kernel_rfl) (by kernel_rfl) (by kernel_rfl) (fun _ _ _ h => False.elim h) ⟨_, _, rfl, rfl, hc14⟩ rfl (OV.ibin (v := .bool (decide ((r30 : Int) < 0))) rfl rfl rfl) ?_
        refine GA.take 16 rfl (by kernel_rfl) (by kernel_rfl) (by kernel_rfl) (fun _ _ _ h => False.elim h) trivial rfl (OV.pickT (b := decide ((x5 : Int) > p_a)) (v := .bool (decide ((r30 : Int) < 0))) rfl hc14 rfl) ?_
        refine GA.done (by kernel_rfl) ?_
        exact GL.jump (fun _ _ h => h) (decide ((r30 : Int) < 0)) h ⟨rfl, rfl, rfl, rfl, rfl, rfl, rfl, trivial⟩
      · replace h := And.right h hc14
        refine GA.skip 4 rfl (by kernel_rfl) (by kernel_rfl) (by kernel_rfl) (fun _ _ _ h => False.elim h) ⟨_, rfl, .inl ⟨_, rfl, hc14⟩⟩ rfl ?_
        refine GA.skip 5 rfl (by kernel_rfl) (by kernel_rfl) (by kernel_rfl) (fun _ _ _ h => False.elim h) ⟨_, rfl, .inl ⟨_, rfl, hc14⟩⟩ rfl ?_
        refine GA.skip 6 rfl (by kernel_rfl) (by kernel_rfl) (by kernel_rfl) (fun _ _ _ h => False.elim h) ⟨_, rfl, .inl ⟨_, rfl, hc14⟩⟩ rfl ?_
        refine GA.skip 7 rfl (by kernel_rfl) (by kernel_rfl) (by kernel_rfl) (fun _ _ _ h => False.elim h) ⟨_, rfl, .inl ⟨_, rfl, hc14⟩⟩ rfl ?_
        refine GA.skip 8 rfl (by kernel_rfl) (by kernel_rfl) (by kernel_rfl) (fun _ _ _ h => False.elim h) ⟨_, rfl, .inl ⟨_, rfl, hc14⟩⟩ rfl ?_
        refine GA.skip 9 rfl (by kernel_rfl) (by kernel_rfl) (by kernel_rfl) (fun _ _ _ h => False.elim h) ⟨_, rfl, .inl ⟨_, rfl, hc14⟩⟩ rfl ?_
        refine GA.skip 10 rfl (by kernel_rfl) (by kernel_rfl) (by kernel_rfl) (fun _ _ _ h => False.elim h) ⟨_, rfl, .inl ⟨_, rfl, hc14⟩⟩ rfl ?_
        refine GA.skip 11 rfl (by kernel_rfl) (by kernel_rfl) (by kernel_rfl) (fun _ _ _ h => False.elim h) ⟨_, rfl, .inl ⟨_, rfl, hc14⟩⟩ rfl ?_
        refine GA.skip 12 rfl (by kernel_rfl) (by kernel_rfl) (by kernel_rfl) (fun _ _ _ h => False.elim h) ⟨_, rfl, .inl ⟨_, rfl, hc14⟩⟩ rfl ?_
        refine GA.skip 13 rfl (by kernel_rfl) (by kernel_rfl) (by kernel_rfl) (fun _ _ _ h => False.elim h) ⟨_, rfl, .inl ⟨_, rfl, hc14⟩⟩ rfl ?_
        refine GA.skip 14 rfl (by kernel_rfl) (by kernel_rfl) (by kernel_rfl) (fun _ _ _ h => False.elim h) ⟨_, rfl, .inl ⟨_, rfl, hc14⟩⟩ rfl ?_
        refine GA.skip 15 rfl (by kernel_rfl) (by kernel_rfl) (by kernel_rfl) (fun _ _ _ h => False.elim h) ⟨_, rfl, .inl ⟨_, rfl, hc14⟩⟩ rfl ?_
        refine GA.take 16 rfl (by kernel_rfl) (by kernel_rfl) (by kernel_rfl) (fun _ _ _ h => False.elim h) trivial rfl (OV.pickF (b := decide ((x5 : Int) > p_a)) (v := .bool false) rfl hc14 rfl) ?_
        refine GA.done (by kernel_rfl) ?_
        exact GL.jump (fun _ _ h => h) false h ⟨rfl, rfl, rfl, rfl, rfl, rfl, rfl, trivial⟩
    · intro x9 H10 h
      replace h := hR11 x9 H10 h
      refine GL.nil ?_
      refine GC.cond (b := x9) rfl (fun hc32 => ?_) (fun hc32 => ?_)
      · replace h := And.left h hc32
        refine GC.skip ?_
        refine GC.seq ?_
        refine GC.block ?_
        obtain ⟨J33, h, hR36⟩ := h
        refine GC.meet (α := Unit) J33 (fun _ => [(0, slv p_data), (1, .int .i64 p_a), (2, .int .i64 p_b), (3, p_cmp), (8, .int .i64 x1), (9, .int .i64 x5)]) ?_ ?_
        · skip
          obtain ⟨Hs37, hle38, h⟩ := h
          refine GC.tail (Hs := Hs37) 17 (by kernel_rfl) hle38 (by kernel_rfl) ?_
          refine GT.take 0 rfl (by kernel_rfl) (by kernel_rfl) (by kernel_rfl) rfl (fun _ _ _ h => False.elim h) trivial rfl (OV.move (v := slv p_data) rfl) ?_
          refine GT.take 1 rfl (by kernel_rfl) (by kernel_rfl) (by kernel_rfl) rfl (fun _ _ _ h => False.elim h) trivial rfl (OV.move (v := .int .i64 x5) rfl) ?_
          refine GT.take 2 rfl (by kernel_rfl) (by kernel_rfl) (by kernel_rfl) rfl (fun _ _ _ h => False.elim h) trivial rfl (OV.move (v := slv p_data) rfl) ?_
          refine GT.take 3 rfl (by kernel_rfl) (by kernel_rfl) (by kernel_rfl) rfl (fun _ _ _ h => False.elim h) trivial rfl (OV.move (v := .int .i64 x5) rfl) ?_
          refine GT.take 4 rfl (by kernel_rfl) (by kernel_rfl) (by kernel_rfl) rfl (fun _ _ _ h => False.elim h) trivial rfl (OV.ibin (v := .int .i64 (w .i64 (x5 - 1))) rfl rfl rfl) ?_
          refine GT.take 5 rfl (by kernel_rfl) (by kernel_rfl) (by kernel_rfl) rfl (fun _ _ _ h => False.elim h) trivial rfl (OV.move (v := slv p_data) rfl) ?_
          refine GT.take 6 rfl (by kernel_rfl) (by kernel_rfl) (by kernel_rfl) rfl (fun _ _ _ h => False.elim h) trivial rfl (OV.move (v := .int .i64 x5) rfl) ?_
          refine GT.take 7 rfl (by kernel_rfl) (by kernel_rfl) (by kernel_rfl) rfl (fun _ _ _ h => False.elim h) trivial rfl (OV.ibin (v := .int .i64 (w .i64 (x5 - 1))) rfl rfl rfl) ?_
          obtain ⟨p39, ha40, hb41, hc42, hd43, h⟩ := h
          refine GT.take 8 rfl (by kernel_rfl) (by kernel_rfl) (by kernel_rfl) rfl (fun _ _ _ h => False.elim h) trivial rfl (OV.indexAddr (s := p_data) rfl rfl rfl rfl ha40 hb41 hc42 hd43) ?_
          refine GT.take 10 rfl (by kernel_rfl) (by kernel_rfl) (by kernel_rfl) rfl (fun _ _ _ h => False.elim h) trivial rfl (OV.move (v := slv p_data) rfl) ?_
          refine GT.take 11 rfl (by kernel_rfl) (by kernel_rfl) (by kernel_rfl) rfl (fun _ _ _ h => False.elim h) trivial rfl (OV.move (v := .int .i64 x5) rfl) ?_
          obtain ⟨p44, ha45, hb46, hc47, hd48, h⟩ := h
          refine GT.take 12 rfl (by kernel_rfl) (by kernel_rfl) (by kernel_rfl) rfl (fun _ _ _ h => False.elim h) trivial rfl (OV.indexAddr (s := p_data) rfl rfl rfl rfl ha45 hb46 hc47 hd48) ?_
          refine GT.effs [9, 13] (by kernel_rfl) (by simp) (List.forall_mem_cons.2 ⟨⟨_, rfl, rfl, ?_⟩, List.forall_mem_cons.2 ⟨⟨_, rfl, rfl, ?_⟩, fun _ h => by cases h⟩⟩)
          · replace h := h.1
            obtain ⟨x50, hr51, h⟩ := h
            refine GL.val trivial rfl (OV.load (p := (p39.1, p39.2 + (w .i64 (x5 - 1) : Int).toNat * 1)) rfl rfl hr51) ?_
            obtain ⟨hle49, h⟩ := h
            refine GT.back hle49 ?_
            refine GT.eff 13 rfl (by kernel_rfl) rfl ?_
            obtain ⟨x53, hr54, h⟩ := h
            refine GL.val trivial rfl (OV.load (p := (p44.1, p44.2 + (x5 : Int).toNat * 1)) rfl rfl hr54) ?_
            obtain ⟨hle52, h⟩ := h
            refine GT.back hle52 ?_
            obtain ⟨p55, ha56, hb57, hc58, hd59, h⟩ := h
            refine GT.take 14 rfl (by kernel_rfl) (by kernel_rfl) (by kernel_rfl) rfl (fun _ _ _ h => False.elim h) trivial rfl (OV.indexAddr (s := p_data) rfl rfl rfl rfl ha56 hb57 hc58 hd59) ?_
            refine GT.eff 15 rfl (by kernel_rfl) rfl ?_
            refine GL.store (p := (p55.1, p55.2 + (x5 : Int).toNat * 1)) (v := slv x50) h trivial rfl rfl rfl rfl ?_
            intro H61 h
            obtain ⟨hle60, h⟩ := h
            refine GT.back hle60 ?_
            obtain ⟨p62, ha63, hb64, hc65, hd66, h⟩ := h
            refine GT.take 16 rfl (by kernel_rfl) (by kernel_rfl) (by kernel_rfl) rfl (fun _ _ _ h => False.elim h) trivial rfl (OV.indexAddr (s := p_data) rfl rfl rfl rfl ha63 hb64 hc65 hd66) ?_
            refine GT.done (by kernel_rfl) ?_
            show GL _ _ _ _ _ [_] _ _
            refine GL.store (p := (p62.1, p62.2 + (w .i64 (x5 - 1) : Int).toNat * 1)) (v := slv x53) h trivial rfl rfl rfl rfl ?_
            intro H67 h
            exact GL.jump (fun _ _ h => h) () h ⟨rfl, rfl, rfl, rfl, rfl, rfl, trivial⟩
          · replace h := h.2
            obtain ⟨x69, hr70, h⟩ := h
            refine GL.val trivial rfl (OV.load (p := (p44.1, p44.2 + (x5 : Int).toNat * 1)) rfl rfl hr70) ?_
            obtain ⟨hle68, h⟩ := h
            refine GT.back hle68 ?_
            refine GT.eff 9 rfl (by kernel_rfl) rfl ?_
            obtain ⟨x72, hr73, h⟩ := h
            refine GL.val trivial rfl (OV.load (p := (p39.1, p39.2 + (w .i64 (x5 - 1) : Int).toNat * 1)) rfl rfl hr73) ?_
            obtain ⟨hle71, h⟩ := h
            refine GT.back hle71 ?_
            obtain ⟨p74, ha75, hb76, hc77, hd78, h⟩ := h
            refine GT.take 14 rfl (by kernel_rfl) (by kernel_rfl) (by kernel_rfl) rfl (fun _ _ _ h => False.elim h) trivial rfl (OV.indexAddr (s := p_data) rfl rfl rfl rfl ha75 hb76 hc77 hd78) ?_
            refine GT.eff 15 rfl (by kernel_rfl) rfl ?_
            refine GL.store (p := (p74.1, p74.2 + (x5 : Int).toNat * 1)) (v := slv x72) h trivial rfl rfl rfl rfl ?_
            intro H80 h
            obtain ⟨hle79, h⟩ := h
            refine GT.back hle79 ?_
            obtain ⟨p81, ha82, hb83, hc84, hd85, h⟩ := h
            refine GT.take 16 rfl (by kernel_rfl) (by kernel_rfl) (by kernel_rfl) rfl (fun _ _ _ h => False.elim h) trivial rfl (OV.indexAddr (s := p_data) rfl rfl rfl rfl ha82 hb83 hc84 hd85) ?_
            refine GT.done (by kernel_rfl) ?_
            show GL _ _ _ _ _ [_] _ _
            refine GL.store (p := (p81.1, p81.2 + (w .i64 (x5 - 1) : Int).toNat * 1)) (v := slv x69) h trivial rfl rfl rfl rfl ?_
            intro H86 h
            exact GL.jump (fun _ _ h => h) () h ⟨rfl, rfl, rfl, rfl, rfl, rfl, trivial⟩
        · intro x34 H35 h
          replace h := hR36 x34 H35 h
          refine GL.nil_to (fun _ _ h => h) ?_
          refine GC.region ?_
          refine GL.val trivial rfl (OV.move (v := .int .i64 x5) rfl) ?_
          refine GL.val trivial rfl (OV.ibin (v := .int .i64 (w .i64 (x5 - 1))) rfl rfl rfl) ?_
          refine GL.val trivial rfl (OV.assign (v := .int .i64 (w .i64 (x5 - 1))) rfl) ?_
          exact GL.jump (fun _ _ h => h) (w .i64 (x5 - 1)) h ⟨rfl, rfl, rfl, rfl, rfl, rfl, trivial⟩
      · replace h := And.right h hc32
        refine GC.exit_to (fun _ _ h => h) ?_
        refine GC.region ?_
        refine GL.val trivial rfl (OV.move (v := .int .i64 x1) rfl) ?_
        refine GL.val trivial rfl (OV.ibin (v := .int .i64 (w .i64 (x1 + 1))) rfl rfl rfl) ?_
        refine GL.val trivial rfl (OV.assign (v := .int .i64 (w .i64 (x1 + 1))) rfl) ?_
        exact GL.jump (fun _ _ h => h) (w .i64 (x1 + 1)) h ⟨rfl, rfl, rfl, rfl, rfl, trivial⟩
  · replace h := And.right h hc4
    exact GC.exit_ends (fun _ _ hf hs => post_tmp0 rfl hf hs ⟨rfl, h⟩)

def sh_slices_symMergeCmpFunc_api_Value (C : Ctx) (p_data : Sl) (p_a : Int) (p_m : Int) (p_b : Int) (p_cmp : Value) (K : Heap → Prop) (H : Heap) : Prop :=
  ift (((w .i64 (p_m - p_a)) : Int) == 1)
 (lp (α := Int × Int) (p_m, p_b) H (fun x2 J3 H4 =>
 ift (decide ((x2.1 : Int) < x2.2))
 (dr H4 fun Hs6 =>
 ixa p_data (w .i64 (sShr .u64 (w .u64 (w .i64 (x2.1 + x2.2))) 1)) fun p8 =>
 ldL Hs6 (p8.1, p8.2 + (w .i64 (sShr .u64 (w .u64 (w .i64 (x2.1 + x2.2))) 1) : Int).toNat * 1) fun x13 =>
 ixa p_data p_a fun p15 =>
 ldL Hs6 (p15.1, p15.2 + (p_a : Int).toNat * 1) fun x20 =>
 callU Tryz.prog C p_cmp [slv x13, slv x20] H4 (fun v H24 => ∃ (r23 : Int), v = .int .i64 r23 ∧
 Heap.le Hs6 H24 ∧
 ift (decide ((r23 : Int) < 0))
 (J3 ((w .i64 ((w .i64 (sShr .u64 (w .u64 (w .i64 (x2.1 + x2.2))) 1)) + 1)), x2.2) H24)
 (J3 (x2.1, (w .i64 (sShr .u64 (w .u64 (w .i64 (x2.1 + x2.2))) 1))) H24)))
 (lp (α := Int) p_a H4 (fun x26 J27 H28 =>
 ift (decide ((x26 : Int) < (w .i64 (x2.1 - 1))))
 (jn (α := Unit) (fun x31 H32 =>
 J27 (w .i64 (x26 + 1)) H32)
 (fun J30 => dr H28 fun Hs34 =>
 ixa p_data (w .i64 (x26 + 1)) fun p36 =>
 ixa p_data x26 fun p41 =>
 (ldL H28 (p36.1, p36.2 + (w .i64 (x26 + 1) : Int).toNat * 1) fun x47 =>
 Heap.le Hs34 H28 ∧
 ldL H28 (p41.1, p41.2 + (x26 : Int).toNat * 1) fun x50 =>
 Heap.le Hs34 H28 ∧
 ixa p_data x26 fun p52 =>
 st (p52.1, p52.2 + (x26 : Int).toNat * 1) (slv x47) (fun H58 =>
 Heap.le Hs34 H58 ∧
 ixa p_data (w .i64 (x26 + 1)) fun p59 =>
 st (p59.1, p59.2 + (w .i64 (x26 + 1) : Int).toNat * 1) (slv x50) (fun H64 =>
 J30 () H64) H58) H28) ∧
 (ldL H28 (p41.1, p41.2 + (x26 : Int).toNat * 1) fun x66 =>
 Heap.le Hs34 H28 ∧
 ldL H28 (p36.1, p36.2 + (w .i64 (x26 + 1) : Int).toNat * 1) fun x69 =>
 Heap.le Hs34 H28 ∧
 ixa p_data x26 fun p71 =>
 st (p71.1, p71.2 + (x26 : Int).toNat * 1) (slv x69) (fun H77 =>
 Heap.le Hs34 H77 ∧
 ixa p_data (w .i64 (x26 + 1)) fun p78 =>
 st (p78.1, p78.2 + (w .i64 (x26 + 1) : Int).toNat * 1) (slv x66) (fun H83 =>
 J30 () H83) H77) H28)))
 (K H28)))))
 (ift (((w .i64 (p_b - p_m)) : Int) == 1)
 (lp (α := Int × Int) (p_a, p_m) H (fun x85 J86 H87 =>
 ift (decide ((x85.1 : Int) < x85.2))
 (dr H87 fun Hs89 =>
 ixa p_data p_m fun p91 =>
 ldL Hs89 (p91.1, p91.2 + (p_m : Int).toNat * 1) fun x96 =>
 ixa p_data (w .i64 (sShr .u64 (w .u64 (w .i64 (x85.1 + x85.2))) 1)) fun p98 =>
 ldL Hs89 (p98.1, p98.2 + (w .i64 (sShr .u64 (w .u64 (w .i64 (x85.1 + x85.2))) 1) : Int).toNat * 1) fun x103 =>
 callU Tryz.prog C p_cmp [slv x96, slv x103] H87 (fun v H107 => ∃ (r106 : Int), v = .int .i64 r106 ∧
 Heap.le Hs89 H107 ∧
 ift (!(decide ((r106 : Int) < 0)))
 (J86 ((w .i64 ((w .i64 (sShr .u64 (w .u64 (w .i64 (x85.1 + x85.2))) 1)) + 1)), x85.2) H107)
 (J86 (x85.1, (w .i64 (sShr .u64 (w .u64 (w .i64 (x85.1 + x85.2))) 1))) H107)))
 (lp (α := Int) p_m H87 (fun x109 J110 H111 =>
 ift (decide ((x109 : Int) > x85.1))
 (jn (α := Unit) (fun x114 H115 =>
 J110 (w .i64 (x109 - 1)) H115)
 (fun J113 => dr H111 fun Hs117 =>
 ixa p_data (w .i64 (x109 - 1)) fun p119 =>
 ixa p_data x109 fun p124 =>
 (ldL H111 (p119.1, p119.2 + (w .i64 (x109 - 1) : Int).toNat * 1) fun x130 =>
 Heap.le Hs117 H111 ∧
 ldL H111 (p124.1, p124.2 + (x109 : Int).toNat * 1) fun x133 =>
 Heap.le Hs117 H111 ∧
 ixa p_data x109 fun p135 =>
 st (p135.1, p135.2 + (x109 : Int).toNat * 1) (slv x130) (fun H141 =>
 Heap.le Hs117 H141 ∧
 ixa p_data (w .i64 (x109 - 1)) fun p142 =>
 st (p142.1, p142.2 + (w .i64 (x109 - 1) : Int).toNat * 1) (slv x133) (fun H147 =>
 J113 () H147) H141) H111) ∧
 (ldL H111 (p124.1, p124.2 + (x109 : Int).toNat * 1) fun x149 =>
 Heap.le Hs117 H111 ∧
 ldL H111 (p119.1, p119.2 + (w .i64 (x109 - 1) : Int).toNat * 1) fun x152 =>
 Heap.le Hs117 H111 ∧
 ixa p_data x109 fun p154 =>
 st (p154.1, p154.2 + (x109 : Int).toNat * 1) (slv x152) (fun H160 =>
 Heap.le Hs117 H160 ∧
 ixa p_data (w .i64 (x109 - 1)) fun p161 =>
 st (p161.1, p161.2 + (w .i64 (x109 - 1) : Int).toNat * 1) (slv x149) (fun H166 =>
 J113 () H166) H160) H111)))
 (K H111)))))
 (jn (α := Int × Int) (fun x168 H169 =>
 lp (α := Int × Int) (x168.1, x168.2) H169 (fun x172 J173 H174 =>
 ift (decide ((x172.1 : Int) < x172.2))
 (dr H174 fun Hs176 =>
 ixa p_data (w .i64 ((w .i64 ((w .i64 ((w .i64 (sShr .u64 (w .u64 (w .i64 (p_a + p_b))) 1)) + p_m)) - 1)) - (w .i64 (sShr .u64 (w .u64 (w .i64 (x172.1 + x172.2))) 1)))) fun p178 =>
 ldL Hs176 (p178.1, p178.2 + (w .i64 ((w .i64 ((w .i64 ((w .i64 (sShr .u64 (w .u64 (w .i64 (p_a + p_b))) 1)) + p_m)) - 1)) - (w .i64 (sShr .u64 (w .u64 (w .i64 (x172.1 + x172.2))) 1))) : Int).toNat * 1) fun x183 =>
 ixa p_data (w .i64 (sShr .u64 (w .u64 (w .i64 (x172.1 + x172.2))) 1)) fun p185 =>
 ldL Hs176 (p185.1, p185.2 + (w .i64 (sShr .u64 (w .u64 (w .i64 (x172.1 + x172.2))) 1) : Int).toNat * 1) fun x190 =>
 callU Tryz.prog C p_cmp [slv x183, slv x190] H174 (fun v H194 => ∃ (r193 : Int), v = .int .i64 r193 ∧
 Heap.le Hs176 H194 ∧
 ift (!(decide ((r193 : Int) < 0)))
 (J173 ((w .i64 ((w .i64 (sShr .u64 (w .u64 (w .i64 (x172.1 + x172.2))) 1)) + 1)), x172.2) H194)
 (J173 (x172.1, (w .i64 (sShr .u64 (w .u64 (w .i64 (x172.1 + x172.2))) 1))) H194)))
 (jn (α := Unit) (fun x197 H198 =>
 jn (α := Unit) (fun x204 H205 =>
 ift ((decide (((w .i64 (sShr .u64 (w .u64 (w .i64 (p_a + p_b))) 1)) : Int) < (w .i64 ((w .i64 ((w .i64 (sShr .u64 (w .u64 (w .i64 (p_a + p_b))) 1)) + p_m)) - x172.1)))) && (decide (((w .i64 ((w .i64 ((w .i64 (sShr .u64 (w .u64 (w .i64 (p_a + p_b))) 1)) + p_m)) - x172.1)) : Int) < p_b)))
 (c_slices_symMergeCmpFunc_api_Value C p_data (w .i64 (sShr .u64 (w .u64 (w .i64 (p_a + p_b))) 1)) (w .i64 ((w .i64 ((w .i64 (sShr .u64 (w .u64 (w .i64 (p_a + p_b))) 1)) + p_m)) - x172.1)) p_b p_cmp (fun H212 =>
 K H212) H205)
 (K H205))
 (fun J203 => ift ((decide ((p_a : Int) < x172.1)) && (decide ((x172.1 : Int) < (w .i64 (sShr .u64 (w .u64 (w .i64 (p_a + p_b))) 1)))))
 (c_slices_symMergeCmpFunc_api_Value C p_data p_a x172.1 (w .i64 (sShr .u64 (w .u64 (w .i64 (p_a + p_b))) 1)) p_cmp (fun H209 =>
 J203 () H209) H198)
 (J203 () H198)))
 (fun J196 => ift ((decide ((x172.1 : Int) < p_m)) && (decide ((p_m : Int) < (w .i64 ((w .i64 ((w .i64 (sShr .u64 (w .u64 (w .i64 (p_a + p_b))) 1)) + p_m)) - x172.1)))))
 (c_slices_rotateCmpFunc_api_Value C p_data x172.1 p_m (w .i64 ((w .i64 ((w .i64 (sShr .u64 (w .u64 (w .i64 (p_a + p_b))) 1)) + p_m)) - x172.1)) p_cmp (fun H202 =>
 J196 () H202) H174)
 (J196 () H174)))))
 (fun J167 => ift (decide ((p_m : Int) > (w .i64 (sShr .u64 (w .u64 (w .i64 (p_a + p_b))) 1))))
 (J167 ((w .i64 ((w .i64 ((w .i64 (sShr .u64 (w .u64 (w .i64 (p_a + p_b))) 1)) + p_m)) - p_b)), (w .i64 (sShr .u64 (w .u64 (w .i64 (p_a + p_b))) 1))) H)
 (J167 (p_a, p_m) H))))

theorem ad_slices_symMergeCmpFunc_api_Value (C : Ctx) (p_data : Sl) (p_a : Int) (p_m : Int) (p_b : Int) (p_cmp : Value) (K : Heap → Prop) (H : Heap) (h : sh_slices_symMergeCmpFunc_api_Value C p_data p_a p_m p_b p_cmp K H) : c_slices_symMergeCmpFunc_api_Value C p_data p_a p_m p_b p_cmp K H := by
  refine Spec.enter Tryz.func72 rfl Tryz.ntmps72 rfl ?_
  refine GC.sub [(0, slv p_data), (1, .int .i64 p_a), (2, .int .i64 p_m), (3, .int .i64 p_b), (4, p_cmp)] ⟨rfl, rfl, rfl, rfl, rfl, trivial⟩ ?_
  refine GC.seq ?_
  refine GC.seq ?_
  refine GC.region ?_
  refine GL.val trivial rfl (OV.move (v := .int .i64 p_m) rfl) ?_
  refine GL.val trivial rfl (OV.move (v := .int .i64 p_a) rfl) ?_
  refine GL.val trivial rfl (OV.ibin (v := .int .i64 (w .i64 (p_m - p_a))) rfl rfl rfl) ?_
  refine GL.val trivial rfl (OV.ibin (v := .bool (((w .i64 (p_m - p_a)) : Int) == 1)) rfl rfl rfl) ?_
  refine GL.nil ?_
  refine GC.cond (b := ((w .i64 (p_m - p_a)) : Int) == 1) rfl (fun hc1 => ?_) (fun hc1 => ?_)
  · replace h := And.left h hc1
    refine GC.seq ?_
    refine GC.region ?_
    refine GL.val trivial rfl (OV.move (v := .int .i64 p_m) rfl) ?_
    refine GL.val trivial rfl (OV.assign (v := .int .i64 p_m) rfl) ?_
    refine GL.nil ?_
    refine GC.seq ?_
    refine GC.region ?_
    refine GL.val trivial rfl (OV.move (v := .int .i64 p_b) rfl) ?_
    refine GL.val trivial rfl (OV.assign (v := .int .i64 p_b) rfl) ?_
    refine GL.nil ?_
    refine GC.seq ?_
    refine GC.block ?_
    refine GC.loop (α := Int × Int) h (fun x2 => [(10, .int .i64 x2.1), (11, .int .i64 x2.2), (0, slv p_data), (1, .int .i64 p_a), (4, p_cmp)]) ⟨rfl, rfl, rfl, rfl, rfl, trivial⟩ ?_
    intro x2 H4 J3 h
    refine GC.seq ?_
    refine GC.seq ?_
    refine GC.region ?_
    refine GL.val trivial rfl (OV.move (v := .int .i64 x2.1) rfl) ?_
    refine GL.val trivial rfl (OV.move (v := .int .i64 x2.2) rfl) ?_
    refine GL.val trivial rfl (OV.ibin (v := .bool (decide ((x2.1 : Int) < x2.2))) rfl rfl rfl) ?_
    refine GL.nil ?_
    refine GC.cond (b := decide ((x2.1 : Int) < x2.2)) rfl (fun hc5 => ?_) (fun hc5 => ?_)
    · replace h := And.left h hc5
      refine GC.skip ?_
      refine GC.block ?_
      refine GC.seq ?_
      refine GC.region ?_
      refine GL.val trivial rfl (OV.move (v := .int .i64 x2.1) rfl) ?_
      refine GL.val trivial rfl (OV.move (v := .int .i64 x2.2) rfl) ?_
      refine GL.val trivial rfl (OV.ibin (v := .int .i64 (w .i64 (x2.1 + x2.2))) rfl rfl rfl) ?_
      refine GL.val trivial rfl (OV.convInt rfl rfl rfl) ?_
      refine GL.val trivial rfl (OV.shr rfl rfl (by decide)) ?_
      refine GL.val trivial rfl (OV.convInt rfl rfl rfl) ?_
      refine GL.val trivial rfl (OV.assign (v := .int .i64 (w .i64 (sShr .u64 (w .u64 (w .i64 (x2.1 + x2.2))) 1))) rfl) ?_
      refine GL.nil ?_
      refine GC.seq ?_
      obtain ⟨Hs6, hle7, h⟩ := h
      refine GC.any (Hs := Hs6) (by kernel_rfl) hle7 ?_
      refine GA.take 0 rfl (by kernel_rfl) (by kernel_rfl) (by kernel_rfl) (fun _ _ _ h => False.elim h) trivial rfl (OV.move (v := p_cmp) rfl) ?_
      refine GA.take 1 rfl (by kernel_rfl) (by kernel_rfl) (by kernel_rfl) (fun _ _ _ h => False.elim h) trivial rfl (OV.move (v := slv p_data) rfl) ?_
      refine GA.take 2 rfl (by kernel_rfl) (by kernel_rfl) (by kernel_rfl) (fun _ _ _ h => False.elim h) trivial rfl (OV.move (v := .int .i64 (w .i64 (sShr .u64 (w .u64 (w .i64 (x2.1 + x2.2))) 1))) rfl) ?_
      obtain ⟨p8, ha9, hb10, hc11, hd12, h⟩ := h
      refine GA.take 3 rfl (by kernel_rfl) (by kernel_rfl) (by kernel_rfl) (fun _ _ _ h => False.elim h) trivial rfl (OV.indexAddr (s := p_data) rfl rfl rfl rfl ha9 hb10 hc11 hd12) ?_
      obtain ⟨x13, hr14, h⟩ := h
      refine GA.take 4 rfl (by kernel_rfl) (by kernel_rfl) (by kernel_rfl) (fun _ _ _ h => False.elim h) trivial rfl (OV.load (p := (p8.1, p8.2 + (w .i64 (sShr .u64 (w .u64 (w .i64 (x2.1 + x2.2))) 1) : Int).toNat * 1)) rfl rfl hr14) ?_
      refine GA.take 5 rfl (by kernel_rfl) (by kernel_rfl) (by kernel_rfl) (fun _ _ _ h => False.elim h) trivial rfl (OV.move (v := slv p_data) rfl) ?_
      refine GA.take 6 rfl (by kernel_rfl) (by kernel_rfl) (by kernel_rfl) (fun _ _ _ h => False.elim h) trivial rfl (OV.move (v := .int .i64 p_a) rfl) ?_
      obtain ⟨p15, ha16, hb17, hc18, hd19, h⟩ := h
      refine GA.take 7 rfl (by kernel_rfl) (by kernel_rfl) (by kernel_rfl) (fun _ _ _ h => False.elim h) trivial rfl (OV.indexAddr (s := p_data) rfl rfl rfl rfl ha16 hb17 hc18 hd19) ?_
      obtain ⟨x20, hr21, h⟩ := h
      refine GA.take 8 rfl (by kernel_rfl) (by kernel_rfl) (by kernel_rfl) (fun _ _ _ h => False.elim h) trivial rfl (OV.load (p := (p15.1, p15.2 + (p_a : Int).toNat * 1)) rfl rfl hr21) ?_
      refine GA.eff 9 rfl (by kernel_rfl) ?_
      refine GL.callU (xv := p_cmp) (vs := [slv x13, slv x20]) h trivial rfl rfl rfl ?_
      rintro _ H24 ⟨r23, rfl, h⟩
      obtain ⟨hle22, h⟩ := h
      refine GA.back hle22 ?_
      refine GA.take 10 rfl (by kernel_rfl) (by kernel_rfl) (by kernel_rfl) (fun _ _ _ h => False.elim h) trivial rfl (OV.ibin (v := .bool (decide ((r23 : Int) < 0))) rfl rfl rfl) ?_
      refine GA.done (by kernel_rfl) ?_
      refine GL.nil ?_
      refine GC.cond (b := decide ((r23 : Int) < 0)) rfl (fun hc25 => ?_) (fun hc25 => ?_)
      · replace h := And.left h hc25
        refine GC.region ?_
        refine GL.val trivial rfl (OV.move (v := .int .i64 (w .i64 (sShr .u64 (w .u64 (w .i64 (x2.1 + x2.2))) 1))) rfl) ?_
        refine GL.val trivial rfl (OV.ibin (v := .int .i64 (w .i64 ((w .i64 (sShr .u64 (w .u64 (w .i64 (x2.1 + x2.2))) 1)) + 1))) rfl rfl rfl) ?_
        refine GL.val trivial rfl (OV.assign (v := .int .i64 (w .i64 ((w .i64 (sShr .u64 (w .u64 (w .i64 (x2.1 + x2.2))) 1)) + 1))) rfl) ?_
        exact GL.jump (fun _ _ h => h) ((w .i64 ((w .i64 (sShr .u64 (w .u64 (w .i64 (x2.1 + x2.2))) 1)) + 1)), x2.2) h ⟨rfl, rfl, rfl, rfl, rfl, trivial⟩
      · replace h := And.right h hc25
        refine GC.region ?_
        refine GL.val trivial rfl (OV.move (v := .int .i64 (w .i64 (sShr .u64 (w .u64 (w .i64 (x2.1 + x2.2))) 1))) rfl) ?_
        refine GL.val trivial rfl (OV.assign (v := .int .i64 (w .i64 (sShr .u64 (w .u64 (w .i64 (x2.1 + x2.2))) 1))) rfl) ?_
        exact GL.jump (fun _ _ h => h) (x2.1, (w .i64 (sShr .u64 (w .u64 (w .i64 (x2.1 + x2.2))) 1))) h ⟨rfl, rfl, rfl, rfl, rfl, trivial⟩
    · replace h := And.right h hc5
      refine GC.exit_to (fun _ _ h => h) ?_
      refine GC.seq ?_
      refine GC.seq ?_
      refine GC.region ?_
      refine GL.val trivial rfl (OV.move (v := .int .i64 p_a) rfl) ?_
      refine GL.val trivial rfl (OV.assign (v := .int .i64 p_a) rfl) ?_
      refine GL.nil ?_
      refine GC.block ?_
      refine GC.loop (α := Int) h (fun x26 => [(13, .int .i64 x26), (0, slv p_data), (10, .int .i64 x2.1)]) ⟨rfl, rfl, rfl, trivial⟩ ?_
      intro x26 H28 J27 h
      refine GC.seq ?_
      refine GC.seq ?_
      refine GC.region ?_
      refine GL.val trivial rfl (OV.move (v := .int .i64 x26) rfl) ?_
      refine GL.val trivial rfl (OV.move (v := .int .i64 x2.1) rfl) ?_
      refine GL.val trivial rfl (OV.ibin (v := .int .i64 (w .i64 (x2.1 - 1))) rfl rfl rfl) ?_
      refine GL.val trivial rfl (OV.ibin (v := .bool (decide ((x26 : Int) < (w .i64 (x2.1 - 1))))) rfl rfl rfl) ?_
      refine GL.nil ?_
      refine GC.cond (b := decide ((x26 : Int) < (w .i64 (x2.1 - 1)))) rfl (fun hc29 => ?_) (fun hc29 => ?_)
      · replace h := And.left h hc29
        refine GC.skip ?_
        refine GC.seq ?_
        refine GC.block ?_
        obtain ⟨J30, h, hR33⟩ := h
        refine GC.meet (α := Unit) J30 (fun _ => [(0, slv p_data), (10, .int .i64 x2.1), (13, .int .i64 x26)]) ?_ ?_
        · skip
          obtain ⟨Hs34, hle35, h⟩ := h
          refine GC.tail (Hs := Hs34) 17 (by kernel_rfl) hle35 (by kernel_rfl) ?_
          refine GT.take 0 rfl (by kernel_rfl) (by kernel_rfl) (by kernel_rfl) rfl (fun _ _ _ h => False.elim h) trivial rfl (OV.move (v := slv p_data) rfl) ?_
          refine GT.take 1 rfl (by kernel_rfl) (by kernel_rfl) (by kernel_rfl) rfl (fun _ _ _ h => False.elim h) trivial rfl (OV.move (v := .int .i64 x26) rfl) ?_
          refine GT.take 2 rfl (by kernel_rfl) (by kernel_rfl) (by kernel_rfl) rfl (fun _ _ _ h => False.elim h) trivial rfl (OV.move (v := slv p_data) rfl) ?_
          refine GT.take 3 rfl (by kernel_rfl) (by kernel_rfl) (by kernel_rfl) rfl (fun _ _ _ h => False.elim h) trivial rfl (OV.move (v := .int .i64 x26) rfl) ?_
          refine GT.take 4 rfl (by kernel_rfl) (by kernel_rfl) (by kernel_rfl) rfl (fun _ _ _ h => False.elim h) trivial rfl (OV.ibin (v := .int .i64 (w .i64 (x26 + 1))) rfl rfl rfl) ?_
          refine GT.take 5 rfl (by kernel_rfl) (by kernel_rfl) (by kernel_rfl) rfl (fun _ _ _ h => False.elim h) trivial rfl (OV.move (v := slv p_data) rfl) ?_
          refine GT.take 6 rfl (by kernel_rfl) (by kernel_rfl) (by kernel_rfl) rfl (fun _ _ _ h => False.elim h) trivial rfl (OV.move (v := .int .i64 x26) rfl) ?_
          refine GT.take 7 rfl (by kernel_rfl) (by kernel_rfl) (by kernel_rfl) rfl (fun _ _ _ h => False.elim h) trivial rfl (OV.ibin (v := .int .i64 (w .i64 (x26 + 1))) rfl rfl rfl) ?_
          obtain ⟨p36, ha37, hb38, hc39, hd40, h⟩ := h
          refine GT.take 8 rfl (by kernel_rfl) (by kernel_rfl) (by kernel_rfl) rfl (fun _ _ _ h => False.elim h) trivial rfl (OV.indexAddr (s := p_data) rfl rfl rfl rfl ha37 hb38 hc39 hd40) ?_
          refine GT.take 10 rfl (by kernel_rfl) (by kernel_rfl) (by kernel_rfl) rfl (fun _ _ _ h => False.elim h) trivial rfl (OV.move (v := slv p_data) rfl) ?_
          refine GT.take 11 rfl (by kernel_rfl) (by kernel_rfl) (by kernel_rfl) rfl (fun _ _ _ h => False.elim h) trivial rfl (OV.move (v := .int .i64 x26) rfl) ?_
          obtain ⟨p41, ha42, hb43, hc44, hd45, h⟩ := h
          refine GT.take 12 rfl (by kernel_rfl) (by kernel_rfl) (by kernel_rfl) rfl (fun _ _ _ h => False.elim h) trivial rfl (OV.indexAddr (s := p_data) rfl rfl rfl rfl ha42 hb43 hc44 hd45) ?_
          refine GT.effs [9, 13] (by kernel_rfl) (by simp) (List.forall_mem_cons.2 ⟨⟨_, rfl, rfl, ?_⟩, List.forall_mem_cons.2 ⟨⟨_, rfl, rfl, ?_⟩, fun _ h => by cases h⟩⟩)
          · replace h := h.1
            obtain ⟨x47, hr48, h⟩ := h
            refine GL.val trivial rfl (OV.load (p := (p36.1, p36.2 + (w .i64 (x26 + 1) : Int).toNat * 1)) rfl rfl hr48) ?_
            obtain ⟨hle46, h⟩ := h
            refine GT.back hle46 ?_
            refine GT.eff 13 rfl (by kernel_rfl) rfl ?_
            obtain ⟨x50, hr51, h⟩ := h
            refine GL.val trivial rfl (OV.load (p := (p41.1, p41.2 + (x26 : Int).toNat * 1)) rfl rfl hr51) ?_
            obtain ⟨hle49, h⟩ := h
            refine GT.back hle49 ?_
            obtain ⟨p52, ha53, hb54, hc55, hd56, h⟩ := h
            refine GT.take 14 rfl (by kernel_rfl) (by kernel_rfl) (by kernel_rfl) rfl (fun _ _ _ h => False.elim h) trivial rfl (OV.indexAddr (s := p_data) rfl rfl rfl rfl ha53 hb54 hc55 hd56) ?_
            refine GT.eff 15 rfl (by kernel_rfl) rfl ?_
            refine GL.store (p := (p52.1, p52.2 + (x26 : Int).toNat * 1)) (v := slv x47) h trivial rfl rfl rfl rfl ?_
            intro H58 h
            obtain ⟨hle57, h⟩ := h
            refine GT.back hle57 ?_
            obtain ⟨p59, ha60, hb61, hc62, hd63, h⟩ := h
            refine GT.take 16 rfl (by kernel_rfl) (by kernel_rfl) (by kernel_rfl) rfl (fun _ _ _ h => False.elim h) trivial rfl (OV.indexAddr (s := p_data) rfl rfl rfl rfl ha60 hb61 hc62 hd63) ?_
            refine GT.done (by kernel_rfl) ?_
            show GL _ _ _ _ _ [_] _ _
            refine GL.store (p := (p59.1, p59.2 + (w .i64 (x26 + 1) : Int).toNat * 1)) (v := slv x50) h trivial rfl rfl rfl rfl ?_
            intro H64 h
            exact GL.jump (fun _ _ h => h) () h ⟨rfl, rfl, rfl, trivial⟩
          · replace h := h.2
            obtain ⟨x66, hr67, h⟩ := h
            refine GL.val trivial rfl (OV.load (p := (p41.1, p41.2 + (x26 : Int).toNat * 1)) rfl rfl hr67) ?_
            obtain ⟨hle65, h⟩ := h
            refine GT.back hle65 ?_
            refine GT.eff 9 rfl (by kernel_rfl) rfl ?_
            obtain ⟨x69, hr70, h⟩ := h
            refine GL.val trivial rfl (OV.load (p := (p36.1, p36.2 + (w .i64 (x26 + 1) : Int).toNat * 1)) rfl rfl hr70) ?_
            obtain ⟨hle68, h⟩ := h
            refine GT.back hle68 ?_
            obtain ⟨p71, ha72, hb73, hc74, hd75, h⟩ := h
            refine GT.take 14 rfl (by kernel_rfl) (by kernel_rfl) (by kernel_rfl) rfl (fun _ _ _ h => False.elim h) trivial rfl (OV.indexAddr (s := p_data) rfl rfl rfl rfl ha72 hb73 hc74 hd75) ?_
            refine GT.eff 15 rfl (by kernel_rfl) rfl ?_
            refine GL.store (p := (p71.1, p71.2 + (x26 : Int).toNat * 1)) (v := slv x69) h trivial rfl rfl rfl rfl ?_
            intro H77 h
            obtain ⟨hle76, h⟩ := h
            refine GT.back hle76 ?_
            obtain ⟨p78, ha79, hb80, hc81, hd82, h⟩ := h
            refine GT.take 16 rfl (by kernel_rfl) (by kernel_rfl) (by kernel_rfl) rfl (fun _ _ _ h => False.elim h) trivial rfl (OV.indexAddr (s := p_data) rfl rfl rfl rfl ha79 hb80 hc81 hd82) ?_
            refine GT.done (by kernel_rfl) ?_
            show GL _ _ _ _ _ [_] _ _
            refine GL.store (p := (p78.1, p78.2 + (w .i64 (x26 + 1) : Int).toNat * 1)) (v := slv x66) h trivial rfl rfl rfl rfl ?_
            intro H83 h
            exact GL.jump (fun _ _ h => h) () h ⟨rfl, rfl, rfl, trivial⟩
        · intro x31 H32 h
          replace h := hR33 x31 H32 h
          refine GL.nil_to (fun _ _ h => h) ?_
          refine GC.region ?_
          refine GL.val trivial rfl (OV.move (v := .int .i64 x26) rfl) ?_
          refine GL.val trivial rfl (OV.ibin (v := .int .i64 (w .i64 (x26 + 1))) rfl rfl rfl) ?_
          refine GL.val trivial rfl (OV.assign (v := .int .i64 (w .i64 (x26 + 1))) rfl) ?_
          exact GL.jump (fun _ _ h => h) (w .i64 (x26 + 1)) h ⟨rfl, rfl, rfl, trivial⟩
      · replace h := And.right h hc29
        refine GC.exit_to (fun _ _ h => h) ?_
        exact GC.ret (fun _ _ hf hs => post_tmp0 rfl hf hs ⟨rfl, h⟩)
  · replace h := And.right h hc1
    refine GC.skip ?_
    refine GC.seq ?_
    refine GC.seq ?_
    refine GC.region ?_
    refine GL.val trivial rfl (OV.move (v := .int .i64 p_b) rfl) ?_
    refine GL.val trivial rfl (OV.move (v := .int .i64 p_m) rfl) ?_
    refine GL.val trivial rfl (OV.ibin (v := .int .i64 (w .i64 (p_b - p_m))) rfl rfl rfl) ?_
    refine GL.val trivial rfl (OV.ibin (v := .bool (((w .i64 (p_b - p_m)) : Int) == 1)) rfl rfl rfl) ?_
    refine GL.nil ?_
    refine GC.cond (b := ((w .i64 (p_b - p_m)) : Int) == 1) rfl (fun hc84 => ?_) (fun hc84 => ?_)
    · replace h := And.left h hc84
      refine GC.seq ?_
      refine GC.region ?_
      refine GL.val trivial rfl (OV.move (v := .int .i64 p_a) rfl) ?_
      refine GL.val trivial rfl (OV.assign (v := .int .i64 p_a) rfl) ?_
      refine GL.nil ?_
      refine GC.seq ?_
      refine GC.region ?_
      refine GL.val trivial rfl (OV.move (v := .int .i64 p_m) rfl) ?_
      refine GL.val trivial rfl (OV.assign (v := .int .i64 p_m) rfl) ?_
      refine GL.nil ?_
      refine GC.seq ?_
      refine GC.block ?_
      refine GC.loop (α := Int × Int) h (fun x85 => [(14, .int .i64 x85.1), (15, .int .i64 x85.2), (0, slv p_data), (2, .int .i64 p_m), (4, p_cmp)]) ⟨rfl, rfl, rfl, rfl, rfl, trivial⟩ ?_
      intro x85 H87 J86 h
      refine GC.seq ?_
      refine GC.seq ?_
      refine GC.region ?_
      refine GL.val trivial rfl (OV.move (v := .int .i64 x85.1) rfl) ?_
      refine GL.val trivial rfl (OV.move (v := .int .i64 x85.2) rfl) ?_
      refine GL.val trivial rfl (OV.ibin (v := .bool (decide ((x85.1 : Int) < x85.2))) rfl rfl rfl) ?_
      refine GL.nil ?_
      refine GC.cond (b := decide ((x85.1 : Int) < x85.2)) rfl (fun hc88 => ?_) (fun hc88 => ?_)
      · replace h := And.left h hc88
        refine GC.skip ?_
        refine GC.block ?_
        refine GC.seq ?_
        refine GC.region ?_
        refine GL.val trivial rfl (OV.move (v := .int .i64 x85.1) rfl) ?_
        refine GL.val trivial rfl (OV.move (v := .int .i64 x85.2) rfl) ?_
        refine GL.val trivial rfl (OV.ibin (v := .int .i64 (w .i64 (x85.1 + x85.2))) rfl rfl rfl) ?_
        refine GL.val trivial rfl (OV.convInt rfl rfl rfl) ?_
        refine GL.val trivial rfl (OV.shr rfl rfl (by decide)) ?_
        refine GL.val trivial rfl (OV.convInt rfl rfl rfl) ?_
        refine GL.val trivial rfl (OV.assign (v := .int .i64 (w .i64 (sShr .u64 (w .u64 (w .i64 (x85.1 + x85.2))) 1))) rfl) ?_
        refine GL.nil ?_
        refine GC.seq ?_
        obtain ⟨Hs89, hle90, h⟩ := h
        refine GC.any (Hs := Hs89) (by kernel_rfl) hle90 ?_
        refine GA.take 0 rfl (by kernel_rfl) (by kernel_rfl) (by kernel_rfl) (fun _ _ _ h => False.elim h) trivial rfl (OV.move (v := p_cmp) rfl) ?_
        refine GA.take 1 rfl (by kernel_rfl) (by kernel_rfl) (by kernel_rfl) (fun _ _ _ h => False.elim h) trivial rfl (OV.move (v := slv p_data) rfl) ?_
        refine GA.take 2 rfl (by kernel_rfl) (by kernel_rfl) (by kernel_rfl) (fun _ _ _ h => False.elim h) trivial rfl (OV.move (v := .int .i64 p_m) rfl) ?_
        obtain ⟨p91, ha92, hb93, hc94, hd95, h⟩ := h
        refine GA.take 3 rfl (by kernel_rfl) (by kernel_rfl) (by kernel_rfl) (fun _ _ _ h => False.elim h) trivial rfl (OV.indexAddr (s := p_data) rfl rfl rfl rfl ha92 hb93 hc94 hd95) ?_
        obtain ⟨x96, hr97, h⟩ := h
        refine GA.take 4 rfl (by kernel_rfl) (by kernel_rfl) (by kernel_rfl) (fun _ _ _ h => False.elim h) trivial rfl (OV.load (p := (p91.1, p91.2 + (p_m : Int).toNat * 1)) rfl rfl hr97) ?_
        refine GA.take 5 rfl (by kernel_rfl) (by kernel_rfl) (by kernel_rfl) (fun _ _ _ h => False.elim h) trivial rfl (OV.move (v := slv p_data) rfl) ?_
        refine GA.take 6 rfl (by kernel_rfl) (by kernel_rfl) (by kernel_rfl) (fun _ _ _ h => False.elim h) trivial rfl (OV.move (v := .int .i64 (w .i64 (sShr .u64 (w .u64 (w .i64 (x85.1 + x85.2))) 1))) rfl) ?_
        obtain ⟨p98, ha99, hb100, hc101, hd102, h⟩ := h
        refine GA.take 7 rfl (by kernel_rfl) (by kernel_rfl) (by kernel_rfl) (fun _ _ _ h => False.elim h) trivial rfl (OV.indexAddr (s := p_data) rfl rfl rfl rfl ha99 hb100 hc101 hd102) ?_
        obtain ⟨x103, hr104, h⟩ := h
        refine GA.take 8 rfl (by kernel_rfl) (by kernel_rfl) (by kernel_rfl) (fun _ _ _ h => False.elim h) trivial rfl (OV.load (p := (p98.1, p98.2 + (w .i64 (sShr .u64 (w .u64 (w .i64 (x85.1 + x85.2))) 1) : Int).toNat * 1)) rfl rfl hr104) ?_
        refine GA.eff 9 rfl (by kernel_rfl) ?_
        refine GL.callU (xv := p_cmp) (vs := [slv x96, slv x103]) h trivial rfl rfl rfl ?_
        rintro _ H107 ⟨r106, rfl, h⟩
        obtain ⟨hle105, h⟩ := h
        refine GA.back hle105 ?_
        refine GA.take 10 rfl (by kernel_rfl) (by kernel_rfl) (by kernel_rfl) (fun _ _ _ h => False.elim h) trivial rfl (OV.ibin (v := .bool (decide ((r106 : Int) < 0))) rfl rfl rfl) ?_
        refine GA.take 11 rfl (by kernel_rfl) (by kernel_rfl) (by kernel_rfl) (fun _ _ _ h => False.elim h) trivial rfl (OV.not rfl) ?_
        refine GA.done (by kernel_rfl) ?_
        refine GL.nil ?_
        refine GC.cond (b := !(decide ((r106 : Int) < 0))) rfl (fun hc108 => ?_) (fun hc108 => ?_)
        · replace h := And.left h hc108
          refine GC.region ?_
          refine GL.val trivial rfl (OV.move (v := .int .i64 (w .i64 (sShr .u64 (w .u64 (w .i64 (x85.1 + x85.2))) 1))) rfl) ?_
          refine GL.val trivial rfl (OV.ibin (v := .int .i64 (w .i64 ((w .i64 (sShr .u64 (w .u64 (w .i64 (x85.1 + x85.2))) 1)) + 1))) rfl rfl rfl) ?_
          refine GL.val trivial rfl (OV.assign (v := .int .i64 (w .i64 ((w .i64 (sShr .u64 (w .u64 (w .i64 (x85.1 + x85.2))) 1)) + 1))) rfl) ?_
          exact GL.jump (fun _ _ h => h) ((w .i64 ((w .i64 (sShr .u64 (w .u64 (w .i64 (x85.1 + x85.2))) 1)) + 1)), x85.2) h ⟨rfl, rfl, rfl, rfl, rfl, trivial⟩
        · replace h := And.right h hc108
          refine GC.region ?_
          refine GL.val trivial rfl (OV.move (v := .int .i64 (w .i64 (sShr .u64 (w .u64 (w .i64 (x85.1 + x85.2))) 1))) rfl) ?_
          refine GL.val trivial rfl (OV.assign (v := .int .i64 (w .i64 (sShr .u64 (w .u64 (w .i64 (x85.1 + x85.2))) 1))) rfl) ?_
          exact GL.jump (fun _ _ h => h) (x85.1, (w .i64 (sShr .u64 (w .u64 (w .i64 (x85.1 + x85.2))) 1))) h ⟨rfl, rfl, rfl, rfl, rfl, trivial⟩
      · replace h := And.right h hc88
        refine GC.exit_to (fun _ _ h => h) ?_
        refine GC.seq ?_
        refine GC.seq ?_
        refine GC.region ?_
        refine GL.val trivial rfl (OV.move (v := .int .i64 p_m) rfl) ?_
        refine GL.val trivial rfl (OV.assign (v := .int .i64 p_m) rfl) ?_
        refine GL.nil ?_
        refine GC.block ?_
        refine GC.loop (α := Int) h (fun x109 => [(17, .int .i64 x109), (0, slv p_data), (14, .int .i64 x85.1)]) ⟨rfl, rfl, rfl, trivial⟩ ?_
        intro x109 H111 J110 h
        refine GC.seq ?_
        refine GC.seq ?_
        refine GC.region ?_
        refine GL.val trivial rfl (OV.move (v := .int .i64 x109) rfl) ?_
        refine GL.val trivial rfl (OV.move (v := .int .i64 x85.1) rfl) ?_
        refine GL.val trivial rfl (OV.ibin (v := .bool (decide ((x109 : Int) > x85.1))) rfl rfl rfl) ?_
        refine GL.nil ?_
        refine GC.cond (b := decide ((x109 : Int) > x85.1)) rfl (fun hc112 => ?_) (fun hc112 => ?_)
        · replace h := And.left h hc112
          refine GC.skip ?_
          refine GC.seq ?_
          refine GC.block ?_
          obtain ⟨J113, h, hR116⟩ := h
          refine GC.meet (α := Unit) J113 (fun _ => [(0, slv p_data), (14, .int .i64 x85.1), (17, .int .i64 x109)]) ?_ ?_
          · skip
            obtain ⟨Hs117, hle118, h⟩ := h
            refine GC.tail (Hs := Hs117) 17 (by kernel_rfl) hle118 (by kernel_rfl) ?_
            refine GT.take 0 rfl (by kernel_rfl) (by kernel_rfl) (by kernel_rfl) rfl (fun _ _ _ h => False.elim h) trivial rfl (OV.move (v := slv p_data) rfl) ?_
            refine GT.take 1 rfl (by kernel_rfl) (by kernel_rfl) (by kernel_rfl) rfl (fun _ _ _ h => False.elim h) trivial rfl (OV.move (v := .int .i64 x109) rfl) ?_
            refine GT.take 2 rfl (by kernel_rfl) (by kernel_rfl) (by kernel_rfl) rfl (fun _ _ _ h => False.elim h) trivial rfl (OV.move (v := slv p_data) rfl) ?_
            refine GT.take 3 rfl (by kernel_rfl) (by kernel_rfl) (by kernel_rfl) rfl (fun _ _ _ h => False.elim h) trivial rfl (OV.move (v := .int .i64 x109) rfl) ?_
            refine GT.take 4 rfl (by kernel_rfl) (by kernel_rfl) (by kernel_rfl) rfl (fun _ _ _ h => False.elim h) trivial rfl (OV.ibin (v := .int .i64 (w .i64 (x109 - 1))) rfl rfl rfl) ?_
            refine GT.take 5 rfl (by kernel_rfl) (by kernel_rfl) (by kernel_rfl) rfl (fun _ _ _ h => False.elim h) trivial rfl (OV.move (v := slv p_data) rfl) ?_
            refine GT.take 6 rfl (by kernel_rfl) (by kernel_rfl) (by kernel_rfl) rfl (fun _ _ _ h => False.elim h) trivial rfl (OV.move (v := .int .i64 x109) rfl) ?_
            refine GT.take 7 rfl (by kernel_rfl) (by kernel_rfl) (by kernel_rfl) rfl (fun _ _ _ h => False.elim h) trivial rfl (OV.ibin (v := .int .i64 (w .i64 (x109 - 1))) rfl rfl rfl) ?_
            obtain ⟨p119, ha120, hb121, hc122, hd123, h⟩ := h
            refine GT.take 8 rfl (by kernel_rfl) (by kernel_rfl) (by kernel_rfl) rfl (fun _ _ _ h => False.elim h) trivial rfl (OV.indexAddr (s := p_data) rfl rfl rfl rfl ha120 hb121 hc122 hd123) ?_
            refine GT.take 10 rfl (by kernel_rfl) (by kernel_rfl) (by kernel_rfl) rfl (fun _ _ _ h => False.elim h) trivial rfl (OV.move (v := slv p_data) rfl) ?_
            refine GT.take 11 rfl (by kernel_rfl) (by kernel_rfl) (by kernel_rfl) rfl (fun _ _ _ h => False.elim h) trivial rfl (OV.move (v := .int .i64 x109) rfl) ?_
            obtain ⟨p124, ha125, hb126, hc127, hd128, h⟩ := h
            refine GT.take 12 rfl (by kernel_rfl) (by kernel_rfl) (by kernel_rfl) rfl (fun _ _ _ h => False.elim h) trivial rfl (OV.indexAddr (s := p_data) rfl rfl rfl rfl ha125 hb126 hc127 hd128) ?_
            refine GT.effs [9, 13] (by kernel_rfl) (by simp) (List.forall_mem_cons.2 ⟨⟨_, rfl, rfl, ?_⟩, List.forall_mem_cons.2 ⟨⟨_, rfl, rfl, ?_⟩, fun _ h => by cases h⟩⟩)
            · replace h := h.1
              obtain ⟨x130, hr131, h⟩ := h
              refine GL.val trivial rfl (OV.load (p := (p119.1, p119.2 + (w .i64 (x109 - 1) : Int).toNat * 1)) rfl rfl hr131) ?_
              obtain ⟨hle129, h⟩ := h
              refine GT.back hle129 ?_
              refine GT.eff 13 rfl (by kernel_rfl) rfl ?_
              obtain ⟨x133, hr134, h⟩ := h
              refine GL.val trivial rfl (OV.load (p := (p124.1, p124.2 + (x109 : Int).toNat * 1)) rfl rfl hr134) ?_
              obtain ⟨hle132, h⟩ := h
              refine GT.back hle132 ?_
              obtain ⟨p135, ha136, hb137, hc138, hd139, h⟩ := h
              refine GT.take 14 rfl (by kernel_rfl) (by kernel_rfl) (by kernel_rfl) rfl (fun _ _ _ h => False.elim h) trivial rfl (OV.indexAddr (s := p_data) rfl rfl rfl rfl ha136 hb137 hc138 hd139) ?_
              refine GT.eff 15 rfl (by kernel_rfl) rfl ?_
              refine GL.store (p := (p135.1, p135.2 + (x109 : Int).toNat * 1)) (v := slv x130) h trivial rfl rfl rfl rfl ?_
              intro H141 h
              obtain ⟨hle140, h⟩ := h
              refine GT.back hle140 ?_
              obtain ⟨p142, ha143, hb144, hc145, hd146, h⟩ := h
              refine GT.take 16 rfl (by kernel_rfl) (by kernel_rfl) (by kernel_rfl) rfl (fun _ _ _ h => False.elim h) trivial rfl (OV.indexAddr (s := p_data) rfl rfl rfl rfl ha143 hb144 hc145 hd146) ?_
              refine GT.done (by kernel_rfl) ?_
              show GL _ _ _ _ _ [_] _ _
              refine GL.store (p := (p142.1, p142.2 + (w .i64 (x109 - 1) : Int).toNat * 1)) (v := slv x133) h trivial rfl rfl rfl rfl ?_
              intro H147 h
              exact GL.jump (fun _ _ h => h) () h ⟨rfl, rfl, rfl, trivial⟩
            · replace h := h.2
              obtain ⟨x149, hr150, h⟩ := h
              refine GL.val trivial rfl (OV.load (p := (p124.1, p124.2 + (x109 : Int).toNat * 1)) rfl rfl hr150) ?_
              obtain ⟨hle148, h⟩ := h
              refine GT.back hle148 ?_
              refine GT.eff 9 rfl (by kernel_rfl) rfl ?_
              obtain ⟨x152, hr153, h⟩ := h
              refine GL.val trivial rfl (OV.load (p := (p119.1, p119.2 + (w .i64 (x109 - 1) : Int).toNat * 1)) rfl rfl hr153) ?_
              obtain ⟨hle151, h⟩ := h
              refine GT.back hle151 ?_
              obtain ⟨p154, ha155, hb156, hc157, hd158, h⟩ := h
              refine GT.take 14 rfl (by kernel_rfl) (by kernel_rfl) (by kernel_rfl) rfl (fun _ _ _ h => False.elim h) trivial rfl (OV.indexAddr (s := p_data) rfl rfl rfl rfl ha155 hb156 hc157 hd158) ?_
              refine GT.eff 15 rfl (by kernel_rfl) rfl ?_
              refine GL.store (p := (p154.1, p154.2 + (x109 : Int).toNat * 1)) (v := slv x152) h trivial rfl rfl rfl rfl ?_
              intro H160 h
              obtain ⟨hle159, h⟩ := h
              refine GT.back hle159 ?_
              obtain ⟨p161, ha162, hb163, hc164, hd165, h⟩ := h
              refine GT.take 16 rfl (by kernel_rfl) (by kernel_rfl) (by kernel_rfl) rfl (fun _ _ _ h => False.elim h) trivial rfl (OV.indexAddr (s := p_data) rfl rfl rfl rfl ha162 hb163 hc164 hd165) ?_
              refine GT.done (by kernel_rfl) ?_
              show GL _ _ _ _ _ [_] _ _
              refine GL.store (p := (p161.1, p161.2 + (w .i64 (x109 - 1) : Int).toNat * 1)) (v := slv x149) h trivial rfl rfl rfl rfl ?_
              intro H166 h
              exact GL.jump (fun _ _ h => h) () h ⟨rfl, rfl, rfl, trivial⟩
          · intro x114 H115 h
            replace h := hR116 x114 H115 h
            refine GL.nil_to (fun _ _ h => h) ?_
            refine GC.region ?_
            refine GL.val trivial rfl (OV.move (v := .int .i64 x109) rfl) ?_
            refine GL.val trivial rfl (OV.ibin (v := .int .i64 (w .i64 (x109 - 1))) rfl rfl rfl) ?_
            refine GL.val trivial rfl (OV.assign (v := .int .i64 (w .i64 (x109 - 1))) rfl) ?_
            exact GL.jump (fun _ _ h => h) (w .i64 (x109 - 1)) h ⟨rfl, rfl, rfl, trivial⟩
        · replace h := And.right h hc112
          refine GC.exit_to (fun _ _ h => h) ?_
          exact GC.ret (fun _ _ hf hs => post_tmp0 rfl hf hs ⟨rfl, h⟩)
    · replace h := And.right h hc84
      refine GC.skip ?_
      refine GC.seq ?_
      refine GC.region ?_
      refine GL.val trivial rfl (OV.move (v := .int .i64 p_a) rfl) ?_
      refine GL.val trivial rfl (OV.move (v := .int .i64 p_b) rfl) ?_
      refine GL.val trivial rfl (OV.ibin (v := .int .i64 (w .i64 (p_a + p_b))) rfl rfl rfl) ?_
      refine GL.val trivial rfl (OV.convInt rfl rfl rfl) ?_
      refine GL.val trivial rfl (OV.shr rfl rfl (by decide)) ?_
      refine GL.val trivial rfl (OV.convInt rfl rfl rfl) ?_
      refine GL.val trivial rfl (OV.assign (v := .int .i64 (w .i64 (sShr .u64 (w .u64 (w .i64 (p_a + p_b))) 1))) rfl) ?_
      refine GL.nil ?_
      refine GC.seq ?_
      refine GC.region ?_
      refine GL.val trivial rfl (OV.move (v := .int .i64 (w .i64 (sShr .u64 (w .u64 (w .i64 (p_a + p_b))) 1))) rfl) ?_
      refine GL.val trivial rfl (OV.move (v := .int .i64 p_m) rfl) ?_
      refine GL.val trivial rfl (OV.ibin (v := .int .i64 (w .i64 ((w .i64 (sShr .u64 (w .u64 (w .i64 (p_a + p_b))) 1)) + p_m))) rfl rfl rfl) ?_
      refine GL.val trivial rfl (OV.assign (v := .int .i64 (w .i64 ((w .i64 (sShr .u64 (w .u64 (w .i64 (p_a + p_b))) 1)) + p_m))) rfl) ?_
      refine GL.nil ?_
      refine GC.seq ?_
      refine GC.region ?_
      refine GL.val trivial rfl (OV.assign (v := .int .i64 0) rfl) ?_
      refine GL.val trivial rfl (OV.assign (v := .int .i64 0) rfl) ?_
      refine GL.nil ?_
      obtain ⟨J167, h, hR170⟩ := h
      refine GC.join (α := Int × Int) J167 (fun x168 => [(20, .int .i64 x168.1), (21, .int .i64 x168.2), (0, slv p_data), (1, .int .i64 p_a), (2, .int .i64 p_m), (3, .int .i64 p_b), (4, p_cmp), (18, .int .i64 (w .i64 (sShr .u64 (w .u64 (w .i64 (p_a + p_b))) 1))), (19, .int .i64 (w .i64 ((w .i64 (sShr .u64 (w .u64 (w .i64 (p_a + p_b))) 1)) + p_m)))]) ?_ ?_
      · skip
        refine GC.seq ?_
        refine GC.region ?_
        refine GL.val trivial rfl (OV.move (v := .int .i64 p_m) rfl) ?_
        refine GL.val trivial rfl (OV.move (v := .int .i64 (w .i64 (sShr .u64 (w .u64 (w .i64 (p_a + p_b))) 1))) rfl) ?_
        refine GL.val trivial rfl (OV.ibin (v := .bool (decide ((p_m : Int) > (w .i64 (sShr .u64 (w .u64 (w .i64 (p_a + p_b))) 1))))) rfl rfl rfl) ?_
        refine GL.nil ?_
        refine GC.cond (b := decide ((p_m : Int) > (w .i64 (sShr .u64 (w .u64 (w .i64 (p_a + p_b))) 1)))) rfl (fun hc171 => ?_) (fun hc171 => ?_)
        · replace h := And.left h hc171
          refine GC.seq ?_
          refine GC.region ?_
          refine GL.val trivial rfl (OV.move (v := .int .i64 (w .i64 ((w .i64 (sShr .u64 (w .u64 (w .i64 (p_a + p_b))) 1)) + p_m))) rfl) ?_
          refine GL.val trivial rfl (OV.move (v := .int .i64 p_b) rfl) ?_
          refine GL.val trivial rfl (OV.ibin (v := .int .i64 (w .i64 ((w .i64 ((w .i64 (sShr .u64 (w .u64 (w .i64 (p_a + p_b))) 1)) + p_m)) - p_b))) rfl rfl rfl) ?_
          refine GL.val trivial rfl (OV.assign (v := .int .i64 (w .i64 ((w .i64 ((w .i64 (sShr .u64 (w .u64 (w .i64 (p_a + p_b))) 1)) + p_m)) - p_b))) rfl) ?_
          refine GL.nil ?_
          refine GC.region ?_
          refine GL.val trivial rfl (OV.move (v := .int .i64 (w .i64 (sShr .u64 (w .u64 (w .i64 (p_a + p_b))) 1))) rfl) ?_
          refine GL.val trivial rfl (OV.assign (v := .int .i64 (w .i64 (sShr .u64 (w .u64 (w .i64 (p_a + p_b))) 1))) rfl) ?_
          exact GL.jump (fun _ _ h => h) ((w .i64 ((w .i64 ((w .i64 (sShr .u64 (w .u64 (w .i64 (p_a + p_b))) 1)) + p_m)) - p_b)), (w .i64 (sShr .u64 (w .u64 (w .i64 (p_a + p_b))) 1))) h ⟨rfl, rfl, rfl, rfl, rfl, rfl, rfl, rfl, rfl, trivial⟩
        · replace h := And.right h hc171
          refine GC.seq ?_
          refine GC.region ?_
          refine GL.val trivial rfl (OV.move (v := .int .i64 p_a) rfl) ?_
          refine GL.val trivial rfl (OV.assign (v := .int .i64 p_a) rfl) ?_
          refine GL.nil ?_
          refine GC.region ?_
          refine GL.val trivial rfl (OV.move (v := .int .i64 p_m) rfl) ?_
          refine GL.val trivial rfl (OV.assign (v := .int .i64 p_m) rfl) ?_
          exact GL.jump (fun _ _ h => h) (p_a, p_m) h ⟨rfl, rfl, rfl, rfl, rfl, rfl, rfl, rfl, rfl, trivial⟩
      · intro x168 H169 h
        replace h := hR170 x168 H169 h
        refine GC.seq ?_
        refine GC.region ?_
        refine GL.val trivial rfl (OV.move (v := .int .i64 (w .i64 ((w .i64 (sShr .u64 (w .u64 (w .i64 (p_a + p_b))) 1)) + p_m))) rfl) ?_
        refine GL.val trivial rfl (OV.ibin (v := .int .i64 (w .i64 ((w .i64 ((w .i64 (sShr .u64 (w .u64 (w .i64 (p_a + p_b))) 1)) + p_m)) - 1))) rfl rfl rfl) ?_
        refine GL.val trivial rfl (OV.assign (v := .int .i64 (w .i64 ((w .i64 ((w .i64 (sShr .u64 (w .u64 (w .i64 (p_a + p_b))) 1)) + p_m)) - 1))) rfl) ?_
        refine GL.nil ?_
        refine GC.seq ?_
        refine GC.block ?_
        refine GC.loop (α := Int × Int) h (fun x172 => [(20, .int .i64 x172.1), (21, .int .i64 x172.2), (0, slv p_data), (1, .int .i64 p_a), (2, .int .i64 p_m), (3, .int .i64 p_b), (4, p_cmp), (18, .int .i64 (w .i64 (sShr .u64 (w .u64 (w .i64 (p_a + p_b))) 1))), (19, .int .i64 (w .i64 ((w .i64 (sShr .u64 (w .u64 (w .i64 (p_a + p_b))) 1)) + p_m))), (22, .int .i64 (w .i64 ((w .i64 ((w .i64 (sShr .u64 (w .u64 (w .i64 (p_a + p_b))) 1)) + p_m)) - 1)))]) ⟨rfl, rfl, rfl, rfl, rfl, rfl, rfl, rfl, rfl, rfl, trivial⟩ ?_
        intro x172 H174 J173 h
        refine GC.seq ?_
        refine GC.seq ?_
        refine GC.region ?_
        refine GL.val trivial rfl (OV.move (v := .int .i64 x172.1) rfl) ?_
        refine GL.val trivial rfl (OV.move (v := .int .i64 x172.2) rfl) ?_
        refine GL.val trivial rfl (OV.ibin (v := .bool (decide ((x172.1 : Int) < x172.2))) rfl rfl rfl) ?_
        refine GL.nil ?_
        refine GC.cond (b := decide ((x172.1 : Int) < x172.2)) rfl (fun hc175 => ?_) (fun hc175 => ?_)
        · replace h := And.left h hc175
          refine GC.skip ?_
          refine GC.block ?_
          refine GC.seq ?_
          refine GC.region ?_
          refine GL.val trivial rfl (OV.move (v := .int .i64 x172.1) rfl) ?_
          refine GL.val trivial rfl (OV.move (v := .int .i64 x172.2) rfl) ?_
          refine GL.val trivial rfl (OV.ibin (v := .int .i64 (w .i64 (x172.1 + x172.2))) rfl rfl rfl) ?_
          refine GL.val trivial rfl (OV.convInt rfl rfl rfl) ?_
          refine GL.val trivial rfl (OV.shr rfl rfl (by decide)) ?_
          refine GL.val trivial rfl (OV.convInt rfl rfl rfl) ?_
          refine GL.val trivial rfl (OV.assign (v := .int .i64 (w .i64 (sShr .u64 (w .u64 (w .i64 (x172.1 + x172.2))) 1))) rfl) ?_
          refine GL.nil ?_
          refine GC.seq ?_
          obtain ⟨Hs176, hle177, h⟩ := h
          refine GC.any (Hs := Hs176) (by kernel_rfl) hle177 ?_
          refine GA.take 0 rfl (by kernel_rfl) (by kernel_rfl) (by kernel_rfl) (fun _ _ _ h => False.elim h) trivial rfl (OV.move (v := p_cmp) rfl) ?_
          refine GA.take 1 rfl (by kernel_rfl) (by kernel_rfl) (by kernel_rfl) (fun _ _ _ h => False.elim h) trivial rfl (OV.move (v := slv p_data) rfl) ?_
          refine GA.take 2 rfl (by kernel_rfl) (by kernel_rfl) (by kernel_rfl) (fun _ _ _ h => False.elim h) trivial rfl (OV.move (v := .int .i64 (w .i64 ((w .i64 ((w .i64 (sShr .u64 (w .u64 (w .i64 (p_a + p_b))) 1)) + p_m)) - 1))) rfl) ?_
          refine GA.take 3 rfl (by kernel_rfl) (by kernel_rfl) (by kernel_rfl) (fun _ _ _ h => False.elim h) trivial rfl (OV.move (v := .int .i64 (w .i64 (sShr .u64 (w .u64 (w .i64 (x172.1 + x172.2))) 1))) rfl) ?_
          refine GA.take 4 rfl (by kernel_rfl) (by kernel_rfl) (by kernel_rfl) (fun _ _ _ h => False.elim h) trivial rfl (OV.ibin (v := .int .i64 (w .i64 ((w .i64 ((w .i64 ((w .i64 (sShr .u64 (w .u64 (w .i64 (p_a + p_b))) 1)) + p_m)) - 1)) - (w .i64 (sShr .u64 (w .u64 (w .i64 (x172.1 + x172.2))) 1))))) rfl rfl rfl) ?_
          obtain ⟨p178, ha179, hb180, hc181, hd182, h⟩ := h
          refine GA.take 5 rfl (by kernel_rfl) (by kernel_rfl) (by kernel_rfl) (fun _ _ _ h => False.elim h) trivial rfl (OV.indexAddr (s := p_data) rfl rfl rfl rfl ha179 hb180 hc181 hd182) ?_
          obtain ⟨x183, hr184, h⟩ := h
          refine GA.take 6 rfl (by kernel_rfl) (by kernel_rfl) (by kernel_rfl) (fun _ _ _ h => False.elim h) trivial rfl (OV.load (p := (p178.1, p178.2 + (w .i64 ((w .i64 ((w .i64 ((w .i64 (sShr .u64 (w .u64 (w .i64 (p_a + p_b))) 1)) + p_m)) - 1)) - (w .i64 (sShr .u64 (w .u64 (w .i64 (x172.1 + x172.2))) 1))) : Int).toNat * 1)) rfl rfl hr184) ?_
          refine GA.take 7 rfl (by kernel_rfl) (by kernel_rfl) (by kernel_rfl) (fun _ _ _ h => False.elim h) trivial rfl (OV.move (v := slv p_data) rfl) ?_
          refine GA.take 8 rfl (by kernel_rfl) (by kernel_rfl) (by kernel_rfl) (fun _ _ _ h => False.elim h) trivial rfl (OV.move (v := .int .i64 (w .i64 (sShr .u64 (w .u64 (w .i64 (x172.1 + x172.2))) 1))) rfl) ?_
          obtain ⟨p185, ha186, hb187, hc188, hd189, h⟩ := h
          refine GA.take 9 rfl (by kernel_rfl) (by kernel_rfl) (by kernel_rfl) (fun _ _ _ h => False.elim h) trivial rfl (OV.indexAddr (s := p_data) rfl rfl rfl rfl ha186 hb187 hc188 hd189) ?_
          obtain ⟨x190, hr191, h⟩ := h
          refine GA.take 10 rfl (by kernel_rfl) (by kernel_rfl) (by kernel_rfl) (fun _ _ _ h => False.elim h) trivial rfl (OV.load (p := (p185.1, p185.2 + (w .i64 (sShr .u64 (w .u64 (w .i64 (x172.1 + x172.2))) 1) : Int).toNat * 1)) rfl rfl hr191) ?_
          refine GA.eff 11 rfl (by kernel_rfl) ?_
          refine GL.callU (xv := p_cmp) (vs := [slv x183, slv x190]) h trivial rfl rfl rfl ?_
          rintro _ H194 ⟨r193, rfl, h⟩
          obtain ⟨hle192, h⟩ := h
          refine GA.back hle192 ?_
          refine GA.take 12 rfl (by kernel_rfl) (by kernel_rfl) (by kernel_rfl) (fun _ _ _ h => False.elim h) trivial rfl (OV.ibin (v := .bool (decide ((r193 : Int) < 0))) rfl rfl rfl) ?_
          refine GA.take 13 rfl (by kernel_rfl) (by kernel_rfl) (by kernel_rfl) (fun _ _ _ h => False.elim h) trivial rfl (OV.not rfl) ?_
          refine GA.done (by kernel_rfl) ?_
          refine GL.nil ?_
          refine GC.cond (b := !(decide ((r193 : Int) < 0))) rfl (fun hc195 => ?_) (fun hc195 => ?_)
          · replace h := And.left h hc195
            refine GC.region ?_
            refine GL.val trivial rfl (OV.move (v := .int .i64 (w .i64 (sShr .u64 (w .u64 (w .i64 (x172.1 + x172.2))) 1))) rfl) ?_
            refine GL.val trivial rfl (OV.ibin (v := .int .i64 (w .i64 ((w .i64 (sShr .u64 (w .u64 (w .i64 (x172.1 + x172.2))) 1)) + 1))) rfl rfl rfl) ?_
            refine GL.val trivial rfl (OV.assign (v := .int .i64 (w .i64 ((w .i64 (sShr .u64 (w .u64 (w .i64 (x172.1 + x172.2))) 1)) + 1))) rfl) ?_
            exact GL.jump (fun _ _ h => h) ((w .i64 ((w .i64 (sShr .u64 (w .u64 (w .i64 (x172.1 + x172.2))) 1)) + 1)), x172.2) h ⟨rfl, rfl, rfl, rfl, rfl, rfl, rfl, rfl, rfl, rfl, trivial⟩
          · replace h := And.right h hc195
            refine GC.region ?_
            refine GL.val trivial rfl (OV.move (v := .int .i64 (w .i64 (sShr .u64 (w .u64 (w .i64 (x172.1 + x172.2))) 1))) rfl) ?_
            refine GL.val trivial rfl (OV.assign (v := .int .i64 (w .i64 (sShr .u64 (w .u64 (w .i64 (x172.1 + x172.2))) 1))) rfl) ?_
            exact GL.jump (fun _ _ h => h) (x172.1, (w .i64 (sShr .u64 (w .u64 (w .i64 (x172.1 + x172.2))) 1))) h ⟨rfl, rfl, rfl, rfl, rfl, rfl, rfl, rfl, rfl, rfl, trivial⟩
        · replace h := And.right h hc175
          refine GC.exit_to (fun _ _ h => h) ?_
          refine GC.seq ?_
          refine GC.region ?_
          refine GL.val trivial rfl (OV.move (v := .int .i64 (w .i64 ((w .i64 (sShr .u64 (w .u64 (w .i64 (p_a + p_b))) 1)) + p_m))) rfl) ?_
          refine GL.val trivial rfl (OV.move (v := .int .i64 x172.1) rfl) ?_
          refine GL.val trivial rfl (OV.ibin (v := .int .i64 (w .i64 ((w .i64 ((w .i64 (sShr .u64 (w .u64 (w .i64 (p_a + p_b))) 1)) + p_m)) - x172.1))) rfl rfl rfl) ?_
          refine GL.val trivial rfl (OV.assign (v := .int .i64 (w .i64 ((w .i64 ((w .i64 (sShr .u64 (w .u64 (w .i64 (p_a + p_b))) 1)) + p_m)) - x172.1))) rfl) ?_
          refine GL.nil ?_
          obtain ⟨J196, h, hR199⟩ := h
          refine GC.join (α := Unit) J196 (fun _ => [(0, slv p_data), (1, .int .i64 p_a), (3, .int .i64 p_b), (4, p_cmp), (18, .int .i64 (w .i64 (sShr .u64 (w .u64 (w .i64 (p_a + p_b))) 1))), (20, .int .i64 x172.1), (24, .int .i64 (w .i64 ((w .i64 ((w .i64 (sShr .u64 (w .u64 (w .i64 (p_a + p_b))) 1)) + p_m)) - x172.1)))]) ?_ ?_
          · skip
            refine GC.seq ?_
            refine GC.region ?_
            refine GL.val trivial rfl (OV.move (v := .int .i64 x172.1) rfl) ?_
            refine GL.val trivial rfl (OV.move (v := .int .i64 p_m) rfl) ?_
            refine GL.val trivial rfl (OV.ibin (v := .bool (decide ((x172.1 : Int) < p_m))) rfl rfl rfl) ?_
            refine GL.val trivial rfl (OV.move (v := .bool (decide ((x172.1 : Int) < p_m))) rfl) ?_
            refine GL.cut0 4 [(185, .bool ((decide ((x172.1 : Int) < p_m)) && (decide ((p_m : Int) < (w .i64 ((w .i64 ((w .i64 (sShr .u64 (w .u64 (w .i64 (p_a + p_b))) 1)) + p_m)) - x172.1)))))), (0, slv p_data), (1, .int .i64 p_a), (2, .int .i64 p_m), (3, .int .i64 p_b), (4, p_cmp), (18, .int .i64 (w .i64 (sShr .u64 (w .u64 (w .i64 (p_a + p_b))) 1))), (20, .int .i64 x172.1), (24, .int .i64 (w .i64 ((w .i64 ((w .i64 (sShr .u64 (w .u64 (w .i64 (p_a + p_b))) 1)) + p_m)) - x172.1)))] ?_ ?_
            · rcases Bool.eq_false_or_eq_true (decide ((x172.1 : Int) < p_m)) with hc200 | hc200
              · skip
                refine GL.val ⟨_, _, rfl, rfl, hc200⟩ rfl (OV.move (v := .int .i64 p_m) rfl) ?_
                refine GL.val ⟨_, _, rfl, rfl, hc200⟩ rfl (OV.move (v := .int .i64 (w .i64 ((w .i64 ((w .i64 (sShr .u64 (w .u64 (w .i64 (p_a + p_b))) 1)) + p_m)) - x172.1))) rfl) ?_
                refine GL.val ⟨_, _, rfl, rfl, hc200⟩ rfl (OV.ibin (v := .bool (decide ((p_m : Int) < (w .i64 ((w .i64 ((w .i64 (sShr .u64 (w .u64 (w .i64 (p_a + p_b))) 1)) + p_m)) - x172.1))))) rfl rfl rfl) ?_
                refine GL.val trivial rfl (OV.pickT (b := decide ((x172.1 : Int) < p_m)) (v := .bool (decide ((p_m : Int) < (w .i64 ((w .i64 ((w .i64 (sShr .u64 (w .u64 (w .i64 (p_a + p_b))) 1)) + p_m)) - x172.1))))) rfl hc200 rfl) ?_
                exact GL.jump0 (fun _ _ h => h) () rfl ⟨(by rw [hc200]; rfl), rfl, rfl, rfl, rfl, rfl, rfl, rfl, rfl, trivial⟩
              · skip
                refine GL.skip ⟨_, rfl, .inl ⟨_, rfl, hc200⟩⟩ rfl ?_
                refine GL.skip ⟨_, rfl, .inl ⟨_, rfl, hc200⟩⟩ rfl ?_
                refine GL.skip ⟨_, rfl, .inl ⟨_, rfl, hc200⟩⟩ rfl ?_
                refine GL.val trivial rfl (OV.pickF (b := decide ((x172.1 : Int) < p_m)) (v := .bool false) rfl hc200 rfl) ?_
                exact GL.jump0 (fun _ _ h => h) () rfl ⟨(by rw [hc200]; rfl), rfl, rfl, rfl, rfl, rfl, rfl, rfl, rfl, trivial⟩
            refine GL.nil ?_
            refine GC.cond (b := (decide ((x172.1 : Int) < p_m)) && (decide ((p_m : Int) < (w .i64 ((w .i64 ((w .i64 (sShr .u64 (w .u64 (w .i64 (p_a + p_b))) 1)) + p_m)) - x172.1))))) rfl (fun hc201 => ?_) (fun hc201 => ?_)
            · replace h := And.left h hc201
              refine GC.region ?_
              refine GL.val trivial rfl (OV.move (v := slv p_data) rfl) ?_
              refine GL.val trivial rfl (OV.move (v := .int .i64 x172.1) rfl) ?_
              refine GL.val trivial rfl (OV.move (v := .int .i64 p_m) rfl) ?_
              refine GL.val trivial rfl (OV.move (v := .int .i64 (w .i64 ((w .i64 ((w .i64 (sShr .u64 (w .u64 (w .i64 (p_a + p_b))) 1)) + p_m)) - x172.1))) rfl) ?_
              refine GL.val trivial rfl (OV.move (v := p_cmp) rfl) ?_
              refine GL.call h trivial rfl ok_slices_rotateCmpFunc_api_Value (vs := [slv p_data, .int .i64 x172.1, .int .i64 p_m, .int .i64 (w .i64 ((w .i64 ((w .i64 (sShr .u64 (w .u64 (w .i64 (p_a + p_b))) 1)) + p_m)) - x172.1)), p_cmp]) rfl ?_
              rintro _ H202 ⟨rfl, h⟩
              exact GL.jump (fun _ _ h => h) () h ⟨rfl, rfl, rfl, rfl, rfl, rfl, rfl, trivial⟩
            · replace h := And.right h hc201
              exact GC.jump (fun _ _ h => h) () h ⟨rfl, rfl, rfl, rfl, rfl, rfl, rfl, trivial⟩
          · intro x197 H198 h
            replace h := hR199 x197 H198 h
            obtain ⟨J203, h, hR206⟩ := h
            refine GC.join (α := Unit) J203 (fun _ => [(0, slv p_data), (3, .int .i64 p_b), (4, p_cmp), (18, .int .i64 (w .i64 (sShr .u64 (w .u64 (w .i64 (p_a + p_b))) 1))), (24, .int .i64 (w .i64 ((w .i64 ((w .i64 (sShr .u64 (w .u64 (w .i64 (p_a + p_b))) 1)) + p_m)) - x172.1)))]) ?_ ?_
            · skip
              refine GC.seq ?_
              refine GC.region ?_
              refine GL.val trivial rfl (OV.move (v := .int .i64 p_a) rfl) ?_
              refine GL.val trivial rfl (OV.move (v := .int .i64 x172.1) rfl) ?_
              refine GL.val trivial rfl (OV.ibin (v := .bool (decide ((p_a : Int) < x172.1))) rfl rfl rfl) ?_
              refine GL.val trivial rfl (OV.move (v := .bool (decide ((p_a : Int) < x172.1))) rfl) ?_
              refine GL.cut0 4 [(199, .bool ((decide ((p_a : Int) < x172.1)) && (decide ((x172.1 : Int) < (w .i64 (sShr .u64 (w .u64 (w .i64 (p_a + p_b))) 1)))))), (0, slv p_data), (1, .int .i64 p_a), (3, .int .i64 p_b), (4, p_cmp), (18, .int .i64 (w .i64 (sShr .u64 (w .u64 (w .i64 (p_a + p_b))) 1))), (20, .int .i64 x172.1), (24, .int .i64 (w .i64 ((w .i64 ((w .i64 (sShr .u64 (w .u64 (w .i64 (p_a + p_b))) 1)) + p_m)) - x172.1)))] ?_ ?_
              · rcases Bool.eq_false_or_eq_true (decide ((p_a : Int) < x172.1)) with hc207 | hc207
                · skip
                  refine GL.val ⟨_, _, rfl, rfl, hc207⟩ rfl (OV.move (v := .int .i64 x172.1) rfl) ?_
                  refine GL.val ⟨_, _, rfl, rfl, hc207⟩ rfl (OV.move (v := .int .i64 (w .i64 (sShr .u64 (w .u64 (w .i64 (p_a + p_b))) 1))) rfl) ?_
                  refine GL.val ⟨_, _, rfl, rfl, hc207⟩ rfl (OV.ibin (v := .bool (decide ((x172.1 : Int) < (w .i64 (sShr .u64 (w .u64 (w .i64 (p_a + p_b))) 1))))) rfl rfl rfl) ?_
                  refine GL.val trivial rfl (OV.pickT (b := decide ((p_a : Int) < x172.1)) (v := .bool (decide ((x172.1 : Int) < (w .i64 (sShr .u64 (w .u64 (w .i64 (p_a + p_b))) 1))))) rfl hc207 rfl) ?_
                  exact GL.jump0 (fun _ _ h => h) () rfl ⟨(by rw [hc207]; rfl), rfl, rfl, rfl, rfl, rfl, rfl, rfl, trivial⟩
                · skip
                  refine GL.skip ⟨_, rfl, .inl ⟨_, rfl, hc207⟩⟩ rfl ?_
                  refine GL.skip ⟨_, rfl, .inl ⟨_, rfl, hc207⟩⟩ rfl ?_
                  refine GL.skip ⟨_, rfl, .inl ⟨_, rfl, hc207⟩⟩ rfl ?_
                  refine GL.val trivial rfl (OV.pickF (b := decide ((p_a : Int) < x172.1)) (v := .bool false) rfl hc207 rfl) ?_
                  exact GL.jump0 (fun _ _ h => h) () rfl ⟨(by rw [hc207]; rfl), rfl, rfl, rfl, rfl, rfl, rfl, rfl, trivial⟩
              refine GL.nil ?_
              refine GC.cond (b := (decide ((p_a : Int) < x172.1)) && (decide ((x172.1 : Int) < (w .i64 (sShr .u64 (w .u64 (w .i64 (p_a + p_b))) 1))))) rfl (fun hc208 => ?_) (fun hc208 => ?_)
              · replace h := And.left h hc208
                refine GC.region ?_
                refine GL.val trivial rfl (OV.move (v := slv p_data) rfl) ?_
                refine GL.val trivial rfl (OV.move (v := .int .i64 p_a) rfl) ?_
                refine GL.val trivial rfl (OV.move (v := .int .i64 x172.1) rfl) ?_
                refine GL.val trivial rfl (OV.move (v := .int .i64 (w .i64 (sShr .u64 (w .u64 (w .i64 (p_a + p_b))) 1))) rfl) ?_
                refine GL.val trivial rfl (OV.move (v := p_cmp) rfl) ?_
                refine GL.call h trivial rfl ok_slices_symMergeCmpFunc_api_Value (vs := [slv p_data, .int .i64 p_a, .int .i64 x172.1, .int .i64 (w .i64 (sShr .u64 (w .u64 (w .i64 (p_a + p_b))) 1)), p_cmp]) rfl ?_
                rintro _ H209 ⟨rfl, h⟩
                exact GL.jump (fun _ _ h => h) () h ⟨rfl, rfl, rfl, rfl, rfl, trivial⟩
              · replace h := And.right h hc208
                exact GC.jump (fun _ _ h => h) () h ⟨rfl, rfl, rfl, rfl, rfl, trivial⟩
            · intro x204 H205 h
              replace h := hR206 x204 H205 h
              refine GC.seq ?_
              refine GC.region ?_
              refine GL.val trivial rfl (OV.move (v := .int .i64 (w .i64 (sShr .u64 (w .u64 (w .i64 (p_a + p_b))) 1))) rfl) ?_
              refine GL.val trivial rfl (OV.move (v := .int .i64 (w .i64 ((w .i64 ((w .i64 (sShr .u64 (w .u64 (w .i64 (p_a + p_b))) 1)) + p_m)) - x172.1))) rfl) ?_
              refine GL.val trivial rfl (OV.ibin (v := .bool (decide (((w .i64 (sShr .u64 (w .u64 (w .i64 (p_a + p_b))) 1)) : Int) < (w .i64 ((w .i64 ((w .i64 (sShr .u64 (w .u64 (w .i64 (p_a + p_b))) 1)) + p_m)) - x172.1))))) rfl rfl rfl) ?_
              refine GL.val trivial rfl (OV.move (v := .bool (decide (((w .i64 (sShr .u64 (w .u64 (w .i64 (p_a + p_b))) 1)) : Int) < (w .i64 ((w .i64 ((w .i64 (sShr .u64 (w .u64 (w .i64 (p_a + p_b))) 1)) + p_m)) - x172.1))))) rfl) ?_
              refine GL.cut0 4 [(213, .bool ((decide (((w .i64 (sShr .u64 (w .u64 (w .i64 (p_a + p_b))) 1)) : Int) < (w .i64 ((w .i64 ((w .i64 (sShr .u64 (w .u64 (w .i64 (p_a + p_b))) 1)) + p_m)) - x172.1)))) && (decide (((w .i64 ((w .i64 ((w .i64 (sShr .u64 (w .u64 (w .i64 (p_a + p_b))) 1)) + p_m)) - x172.1)) : Int) < p_b)))), (0, slv p_data), (3, .int .i64 p_b), (4, p_cmp), (18, .int .i64 (w .i64 (sShr .u64 (w .u64 (w .i64 (p_a + p_b))) 1))), (24, .int .i64 (w .i64 ((w .i64 ((w .i64 (sShr .u64 (w .u64 (w .i64 (p_a + p_b))) 1)) + p_m)) - x172.1)))] ?_ ?_
              · rcases Bool.eq_false_or_eq_true (decide (((w .i64 (sShr .u64 (w .u64 (w .i64 (p_a + p_b))) 1)) : Int) < (w .i64 ((w .i64 ((w .i64 (sShr .u64 (w .u64 (w .i64 (p_a + p_b))) 1)) + p_m)) - x172.1)))) with hc210 | hc210
                · skip
                  refine GL.val ⟨_, _, rfl, rfl, hc210⟩ rfl (OV.move (v := .int .i64 (w .i64 ((w .i64 ((w .i64 (sShr .u64 (w .u64 (w .i64 (p_a + p_b))) 1)) + p_m)) - x172.1))) rfl) ?_
                  refine GL.val ⟨_, _, rfl, rfl, hc210⟩ rfl (OV.move (v := .int .i64 p_b) rfl) ?_
                  refine GL.val ⟨_, _, rfl, rfl, hc210⟩ rfl (OV.ibin (v := .bool (decide (((w .i64 ((w .i64 ((w .i64 (sShr .u64 (w .u64 (w .i64 (p_a + p_b))) 1)) + p_m)) - x172.1)) : Int) < p_b))) rfl rfl rfl) ?_
                  refine GL.val trivial rfl (OV.pickT (b := decide (((w .i64 (sShr .u64 (w .u64 (w .i64 (p_a + p_b))) 1)) : Int) < (w .i64 ((w .i64 ((w .i64 (sShr .u64 (w .u64 (w .i64 (p_a + p_b))) 1)) + p_m)) - x172.1)))) (v := .bool (decide (((w .i64 ((w .i64 ((w .i64 (sShr .u64 (w .u64 (w .i64 (p_a + p_b))) 1)) + p_m)) - x172.1)) : Int) < p_b))) rfl hc210 rfl) ?_
                  exact GL.jump0 (fun _ _ h => h) () rfl ⟨(by rw [hc210]; rfl), rfl, rfl, rfl, rfl, rfl, trivial⟩
                · skip
                  refine GL.skip ⟨_, rfl, .inl ⟨_, rfl, hc210⟩⟩ rfl ?_
                  refine GL.skip ⟨_, rfl, .inl ⟨_, rfl, hc210⟩⟩ rfl ?_
                  refine GL.skip ⟨_, rfl, .inl ⟨_, rfl, hc210⟩⟩ rfl ?_
                  refine GL.val trivial rfl (OV.pickF (b := decide (((w .i64 (sShr .u64 (w .u64 (w .i64 (p_a + p_b))) 1)) : Int) < (w .i64 ((w .i64 ((w .i64 (sShr .u64 (w .u64 (w .i64 (p_a + p_b))) 1)) + p_m)) - x172.1)))) (v := .bool false) rfl hc210 rfl) ?_
                  exact GL.jump0 (fun _ _ h => h) () rfl ⟨(by rw [hc210]; rfl), rfl, rfl, rfl, rfl, rfl, trivial⟩
              refine GL.nil ?_
              refine GC.cond (b := (decide (((w .i64 (sShr .u64 (w .u64 (w .i64 (p_a + p_b))) 1)) : Int) < (w .i64 ((w .i64 ((w .i64 (sShr .u64 (w .u64 (w .i64 (p_a + p_b))) 1)) + p_m)) - x172.1)))) && (decide (((w .i64 ((w .i64 ((w .i64 (sShr .u64 (w .u64 (w .i64 (p_a + p_b))) 1)) + p_m)) - x172.1)) : Int) < p_b))) rfl (fun hc211 => ?_) (fun hc211 => ?_)
              · replace h := And.left h hc211
                refine GC.region ?_
                refine GL.val trivial rfl (OV.move (v := slv p_data) rfl) ?_
                refine GL.val trivial rfl (OV.move (v := .int .i64 (w .i64 (sShr .u64 (w .u64 (w .i64 (p_a + p_b))) 1))) rfl) ?_
                refine GL.val trivial rfl (OV.move (v := .int .i64 (w .i64 ((w .i64 ((w .i64 (sShr .u64 (w .u64 (w .i64 (p_a + p_b))) 1)) + p_m)) - x172.1))) rfl) ?_
                refine GL.val trivial rfl (OV.move (v := .int .i64 p_b) rfl) ?_
                refine GL.val trivial rfl (OV.move (v := p_cmp) rfl) ?_
                refine GL.call h trivial rfl ok_slices_symMergeCmpFunc_api_Value (vs := [slv p_data, .int .i64 (w .i64 (sShr .u64 (w .u64 (w .i64 (p_a + p_b))) 1)), .int .i64 (w .i64 ((w .i64 ((w .i64 (sShr .u64 (w .u64 (w .i64 (p_a + p_b))) 1)) + p_m)) - x172.1)), .int .i64 p_b, p_cmp]) rfl ?_
                rintro _ H212 ⟨rfl, h⟩
                exact GL.ends (fun _ _ hf hs => post_tmp0 rfl hf hs ⟨rfl, h⟩)
              · replace h := And.right h hc211
                exact GC.ends (fun _ _ hf hs => post_tmp0 rfl hf hs ⟨rfl, h⟩)

def sh_strings_TrimPrefix (C : Ctx) (p_s : Str) (p_prefix : Str) (K : Str → Heap → Prop) (H : Heap) : Prop :=
  c_internal_stringslite_TrimPrefix C p_s p_prefix (fun r1 H2 =>
 K r1 H2) H

theorem ad_strings_TrimPrefix (C : Ctx) (p_s : Str) (p_prefix : Str) (K : Str → Heap → Prop) (H : Heap) (h : sh_strings_TrimPrefix C p_s p_prefix K H) : c_strings_TrimPrefix C p_s p_prefix K H := by
  refine Spec.enter Tryz.func73 rfl Tryz.ntmps73 rfl ?_
  refine GC.sub [(0, sv p_s), (1, sv p_prefix)] ⟨rfl, rfl, trivial⟩ ?_
  refine GC.seq ?_
  refine GC.region ?_
  refine GL.val trivial rfl (OV.assign (v := sv []) rfl) ?_
  refine GL.nil ?_
  refine GC.seq ?_
  refine GC.region ?_
  refine GL.val trivial rfl (OV.move (v := sv p_s) rfl) ?_
  refine GL.val trivial rfl (OV.move (v := sv p_prefix) rfl) ?_
  refine GL.call h trivial rfl ok_internal_stringslite_TrimPrefix (vs := [sv p_s, sv p_prefix]) rfl ?_
  rintro _ H2 ⟨r1, rfl, h⟩
  refine GL.val trivial rfl (OV.assign (v := sv r1) rfl) ?_
  refine GL.nil ?_
  exact GC.ret (fun _ _ hf hs => post_tmp1 rfl rfl hf hs ⟨r1, rfl, h⟩)

def sh_strings_Trim (C : Ctx) (p_s : Str) (p_cutset : Str) (K : Str → Heap → Prop) (H : Heap) : Prop :=
  ift ((p_s == ([] : Str)) || (p_cutset == ([] : Str)))
 (K p_s H)
 (jn (α := Bool) (fun b3 H10 =>
 ift b3
 (dr H10 fun Hs12 =>
 ixs p_cutset 0 fun c14 =>
 ixs p_cutset 0 fun c17 =>
 c_strings_trimRightByte C p_s (c14.toNat : Int) (fun r21 H22 =>
 Heap.le Hs12 H22 ∧
 c_strings_trimLeftByte C r21 (c17.toNat : Int) (fun r24 H25 =>
 Heap.le Hs12 H25 ∧
 K r24 H25) H22) H10)
 (c_strings_makeASCIISet C p_cutset (fun r26 r27 H28 =>
 nw ((List.replicate 256 (.bool false : Value))) (fun b29 H30 =>
 stC 256 (b29, 0) r26 (fun H31 =>
 ift r27
 (c_strings_trimRightASCII C p_s (some (b29, 0)) (fun r35 H36 =>
 c_strings_trimLeftASCII C r35 (some (b29, 0)) (fun r37 H38 =>
 K r37 H38) H36) H31)
 (c_strings_trimRightUnicode C p_s p_cutset (fun r39 H40 =>
 c_strings_trimLeftUnicode C r39 p_cutset (fun r41 H42 =>
 K r41 H42) H40) H31)) H30) H28) H10))
 (fun J4 => ift (((List.length p_cutset : Int) : Int) == 1)
 (ixs p_cutset 0 fun c7 =>
 J4 (decide (((c7.toNat : Int) : Int) < 128)) H)
 (J4 false H)))

theorem ad_strings_Trim (C : Ctx) (p_s : Str) (p_cutset : Str) (K : Str → Heap → Prop) (H : Heap) (h : sh_strings_Trim C p_s p_cutset K H) : c_strings_Trim C p_s p_cutset K H := by
  refine Spec.enter Tryz.func74 rfl Tryz.ntmps74 rfl ?_
  refine GC.sub [(0, sv p_s), (1, sv p_cutset)] ⟨rfl, rfl, trivial⟩ ?_
  refine GC.seq ?_
  refine GC.region ?_
  refine GL.val trivial rfl (OV.assign (v := sv []) rfl) ?_
  refine GL.nil ?_
  refine GC.seq ?_
  refine GC.seq ?_
  refine GC.region ?_
  refine GL.val trivial rfl (OV.move (v := sv p_s) rfl) ?_
  refine GL.val trivial rfl (OV.sbin (a := p_s) (b := ([] : Str)) (v := .bool (p_s == ([] : Str))) rfl rfl rfl) ?_
  refine GL.val trivial rfl (OV.move (v := .bool (p_s == ([] : Str))) rfl) ?_
  refine GL.cut0 3 [(12, .bool ((p_s == ([] : Str)) || (p_cutset == ([] : Str)))), (0, sv p_s), (1, sv p_cutset)] ?_ ?_
  · rcases Bool.eq_false_or_eq_true (p_s == ([] : Str)) with hc1 | hc1
    · skip
      refine GL.skip ⟨_, rfl, .inl ⟨_, rfl, hc1⟩⟩ rfl ?_
      refine GL.skip ⟨_, rfl, .inl ⟨_, rfl, hc1⟩⟩ rfl ?_
      refine GL.val trivial rfl (OV.pickT (b := p_s == ([] : Str)) (v := .bool true) rfl hc1 rfl) ?_
      exact GL.jump0 (fun _ _ h => h) () rfl ⟨(by rw [hc1]; rfl), rfl, rfl, trivial⟩
    · skip
      refine GL.val ⟨_, _, rfl, rfl, hc1⟩ rfl (OV.move (v := sv p_cutset) rfl) ?_
      refine GL.val ⟨_, _, rfl, rfl, hc1⟩ rfl (OV.sbin (a := p_cutset) (b := ([] : Str)) (v := .bool (p_cutset == ([] : Str))) rfl rfl rfl) ?_
      refine GL.val trivial rfl (OV.pickF (b := p_s == ([] : Str)) (v := .bool (p_cutset == ([] : Str))) rfl hc1 rfl) ?_
      exact GL.jump0 (fun _ _ h => h) () rfl ⟨(by rw [hc1]; rfl), rfl, rfl, trivial⟩
  refine GL.nil ?_
  refine GC.cond (b := (p_s == ([] : Str)) || (p_cutset == ([] : Str))) rfl (fun hc2 => ?_) (fun hc2 => ?_)
  · replace h := And.left h hc2
    refine GC.seq ?_
    refine GC.region ?_
    refine GL.val trivial rfl (OV.move (v := sv p_s) rfl) ?_
    refine GL.val trivial rfl (OV.assign (v := sv p_s) rfl) ?_
    refine GL.nil ?_
    exact GC.ret (fun _ _ hf hs => post_tmp1 rfl rfl hf hs ⟨p_s, rfl, h⟩)
  · replace h := And.right h hc2
    refine GC.skip ?_
    refine GC.seq ?_
    refine GC.seq ?_
    refine GC.region ?_
    refine GL.val trivial rfl (OV.move (v := sv p_cutset) rfl) ?_
    refine GL.val trivial rfl (OV.lenStr (s := p_cutset) rfl rfl) ?_
    refine GL.val trivial rfl (OV.ibin (v := .bool (((List.length p_cutset : Int) : Int) == 1)) rfl rfl rfl) ?_
    refine GL.val trivial rfl (OV.move (v := .bool (((List.length p_cutset : Int) : Int) == 1)) rfl) ?_
    obtain ⟨J4, h, hR5⟩ := h
    refine GL.cut (α := Bool) 4 J4 (fun b3 => [(21, .bool b3), (0, sv p_s), (1, sv p_cutset)]) ?_ ?_
    · rcases Bool.eq_false_or_eq_true (((List.length p_cutset : Int) : Int) == 1) with hc6 | hc6
      · skip
        replace h := And.left h hc6
        refine GL.val ⟨_, _, rfl, rfl, hc6⟩ rfl (OV.move (v := sv p_cutset) rfl) ?_
        obtain ⟨c7, ha8, hb9, h⟩ := h
        refine GL.val ⟨_, _, rfl, rfl, hc6⟩ rfl (OV.indexStr (s := p_cutset) rfl rfl rfl ha8 hb9) ?_
        refine GL.val ⟨_, _, rfl, rfl, hc6⟩ rfl (OV.ibin (v := .bool (decide (((c7.toNat : Int) : Int) < 128))) rfl rfl rfl) ?_
        refine GL.val trivial rfl (OV.pickT (b := ((List.length p_cutset : Int) : Int) == 1) (v := .bool (decide (((c7.toNat : Int) : Int) < 128))) rfl hc6 rfl) ?_
        exact GL.jump (fun _ _ h => h) (decide (((c7.toNat : Int) : Int) < 128)) h ⟨rfl, rfl, rfl, trivial⟩
      · skip
        replace h := And.right h hc6
        refine GL.skip ⟨_, rfl, .inl ⟨_, rfl, hc6⟩⟩ rfl ?_
        refine GL.skip ⟨_, rfl, .inl ⟨_, rfl, hc6⟩⟩ rfl ?_
        refine GL.skip ⟨_, rfl, .inl ⟨_, rfl, hc6⟩⟩ rfl ?_
        refine GL.val trivial rfl (OV.pickF (b := ((List.length p_cutset : Int) : Int) == 1) (v := .bool false) rfl hc6 rfl) ?_
        exact GL.jump (fun _ _ h => h) false h ⟨rfl, rfl, rfl, trivial⟩
    intro b3 H10 h
    replace h := hR5 b3 H10 h
    refine GL.nil ?_
    refine GC.cond (b := b3) rfl (fun hc11 => ?_) (fun hc11 => ?_)
    · replace h := And.left h hc11
      refine GC.seq ?_
      obtain ⟨Hs12, hle13, h⟩ := h
      refine GC.any (Hs := Hs12) (by kernel_rfl) hle13 ?_
      refine GA.take 0 rfl (by kernel_rfl) (by kernel_rfl) (by kernel_rfl) (fun _ _ _ h => False.elim h) trivial rfl (OV.move (v := sv p_s) rfl) ?_
      refine GA.take 1 rfl (by kernel_rfl) (by kernel_rfl) (by kernel_rfl) (fun _ _ _ h => False.elim h) trivial rfl (OV.move (v := sv p_cutset) rfl) ?_
      obtain ⟨c14, ha15, hb16, h⟩ := h
      refine GA.take 2 rfl (by kernel_rfl) (by kernel_rfl) (by kernel_rfl) (fun _ _ _ h => False.elim h) trivial rfl (OV.indexStr (s := p_cutset) rfl rfl rfl ha15 hb16) ?_
      refine GA.take 4 rfl (by kernel_rfl) (by kernel_rfl) (by kernel_rfl) (fun _ _ _ h => False.elim h) trivial rfl (OV.move (v := sv p_cutset) rfl) ?_
      obtain ⟨c17, ha18, hb19, h⟩ := h
      refine GA.take 5 rfl (by kernel_rfl) (by kernel_rfl) (by kernel_rfl) (fun _ _ _ h => False.elim h) trivial rfl (OV.indexStr (s := p_cutset) rfl rfl rfl ha18 hb19) ?_
      refine GA.eff 3 rfl (by kernel_rfl) ?_
      refine GL.call h trivial rfl ok_strings_trimRightByte (vs := [sv p_s, .int .u8 (c14.toNat : Int)]) rfl ?_
      rintro _ H22 ⟨r21, rfl, h⟩
      obtain ⟨hle20, h⟩ := h
      refine GA.back hle20 ?_
      refine GA.eff 6 rfl (by kernel_rfl) ?_
      refine GL.call h trivial rfl ok_strings_trimLeftByte (vs := [sv r21, .int .u8 (c17.toNat : Int)]) rfl ?_
      rintro _ H25 ⟨r24, rfl, h⟩
      obtain ⟨hle23, h⟩ := h
      refine GA.back hle23 ?_
      refine GA.take 7 rfl (by kernel_rfl) (by kernel_rfl) (by kernel_rfl) (fun _ _ _ h => False.elim h) trivial rfl (OV.assign (v := sv r24) rfl) ?_
      refine GA.done (by kernel_rfl) ?_
      refine GL.nil ?_
      exact GC.ret (fun _ _ hf hs => post_tmp1 rfl rfl hf hs ⟨r24, rfl, h⟩)
    · replace h := And.right h hc11
      refine GC.skip ?_
      refine GC.seq ?_
      refine GC.seq ?_
      refine GC.region ?_
      refine GL.val trivial rfl (OV.move (v := sv p_cutset) rfl) ?_
      refine GL.call h trivial rfl ok_strings_makeASCIISet (vs := [sv p_cutset]) rfl ?_
      rintro _ H28 ⟨r26, r27, rfl, h⟩
      refine GL.val trivial rfl (OV.move (v := .tuple #[.agg (List.toArray r26), .bool r27]) rfl) ?_
      refine GL.val trivial rfl (OV.extract (v := .agg (List.toArray r26)) rfl rfl) ?_
      refine GL.val trivial rfl (OV.extract (v := .bool r27) rfl rfl) ?_
      refine GL.alloc (cs := (List.replicate 256 (.bool false : Value))) h trivial rfl rfl rfl ?_
      intro b29 H30 h
      obtain ⟨hl32, h133, h⟩ := h
      refine GL.storeT (p := (b29, 0)) (vs := r26) h trivial rfl rfl h133 (by rw [hl32]; rfl) ?_
      intro H31 h
      refine GL.val trivial rfl (OV.assign (v := .bool r27) rfl) ?_
      refine GL.nil ?_
      refine GC.seq ?_
      refine GC.region ?_
      refine GL.val trivial rfl (OV.move (v := .bool r27) rfl) ?_
      refine GL.nil ?_
      refine GC.cond (b := r27) rfl (fun hc34 => ?_) (fun hc34 => ?_)
      · replace h := And.left h hc34
        refine GC.seq ?_
        refine GC.region ?_
        refine GL.val trivial rfl (OV.move (v := sv p_s) rfl) ?_
        refine GL.call h trivial rfl ok_strings_trimRightASCII (vs := [sv p_s, pv (some (b29, 0))]) rfl ?_
        rintro _ H36 ⟨r35, rfl, h⟩
        refine GL.call h trivial rfl ok_strings_trimLeftASCII (vs := [sv r35, pv (some (b29, 0))]) rfl ?_
        rintro _ H38 ⟨r37, rfl, h⟩
        refine GL.val trivial rfl (OV.assign (v := sv r37) rfl) ?_
        refine GL.nil ?_
        exact GC.ret (fun _ _ hf hs => post_tmp1 rfl rfl hf hs ⟨r37, rfl, h⟩)
      · replace h := And.right h hc34
        refine GC.skip ?_
        refine GC.seq ?_
        refine GC.region ?_
        refine GL.val trivial rfl (OV.move (v := sv p_s) rfl) ?_
        refine GL.val trivial rfl (OV.move (v := sv p_cutset) rfl) ?_
        refine GL.call h trivial rfl ok_strings_trimRightUnicode (vs := [sv p_s, sv p_cutset]) rfl ?_
        rintro _ H40 ⟨r39, rfl, h⟩
        refine GL.val trivial rfl (OV.move (v := sv p_cutset) rfl) ?_
        refine GL.call h trivial rfl ok_strings_trimLeftUnicode (vs := [sv r39, sv p_cutset]) rfl ?_
        rintro _ H42 ⟨r41, rfl, h⟩
        refine GL.val trivial rfl (OV.assign (v := sv r41) rfl) ?_
        refine GL.nil ?_
        exact GC.ret (fun _ _ hf hs => post_tmp1 rfl rfl hf hs ⟨r41, rfl, h⟩)

def sh_internal_stringslite_Cut (C : Ctx) (p_s : Str) (p_sep : Str) (K : Str → Str → Bool → Heap → Prop) (H : Heap) : Prop :=
  c_internal_stringslite_Index C p_s p_sep (fun r1 H2 =>
 ift (decide ((r1 : Int) ≥ 0))
 (slS p_s 0 r1 fun t4 =>
 slS p_s (w .i64 (r1 + (List.length p_sep : Int))) (List.length p_s : Int) fun t10 =>
 K t4 t10 true H2)
 (K p_s [] false H2)) H

theorem ad_internal_stringslite_Cut (C : Ctx) (p_s : Str) (p_sep : Str) (K : Str → Str → Bool → Heap → Prop) (H : Heap) (h : sh_internal_stringslite_Cut C p_s p_sep K H) : c_internal_stringslite_Cut C p_s p_sep K H := by
  refine Spec.enter Tryz.func75 rfl Tryz.ntmps75 rfl ?_
  refine GC.sub [(0, sv p_s), (1, sv p_sep)] ⟨rfl, rfl, trivial⟩ ?_
  refine GC.seq ?_
  refine GC.region ?_
  refine GL.val trivial rfl (OV.assign (v := sv []) rfl) ?_
  refine GL.val trivial rfl (OV.assign (v := sv []) rfl) ?_
  refine GL.val trivial rfl (OV.assign (v := .bool false) rfl) ?_
  refine GL.nil ?_
  refine GC.seq ?_
  refine GC.seq ?_
  refine GC.region ?_
  refine GL.val trivial rfl (OV.move (v := sv p_s) rfl) ?_
  refine GL.val trivial rfl (OV.move (v := sv p_sep) rfl) ?_
  refine GL.call h trivial rfl ok_internal_stringslite_Index (vs := [sv p_s, sv p_sep]) rfl ?_
  rintro _ H2 ⟨r1, rfl, h⟩
  refine GL.val trivial rfl (OV.assign (v := .int .i64 r1) rfl) ?_
  refine GL.nil ?_
  refine GC.seq ?_
  refine GC.region ?_
  refine GL.val trivial rfl (OV.move (v := .int .i64 r1) rfl) ?_
  refine GL.val trivial rfl (OV.ibin (v := .bool (decide ((r1 : Int) ≥ 0))) rfl rfl rfl) ?_
  refine GL.nil ?_
  refine GC.cond (b := decide ((r1 : Int) ≥ 0)) rfl (fun hc3 => ?_) (fun hc3 => ?_)
  · replace h := And.left h hc3
    refine GC.seq ?_
    refine GC.draw (by kernel_rfl) (by kernel_rfl) ?_
    refine GQ.val trivial rfl (OV.move (v := sv p_s) rfl) ?_
    refine GQ.val trivial rfl (OV.move (v := .int .i64 r1) rfl) ?_
    obtain ⟨h5, h6, h7, t4, h8, h⟩ := h
    refine GQ.val trivial rfl (OV.sliceStr (s := p_s) h5 h6 h7 h8 rfl rfl rfl rfl rfl rfl) ?_
    refine GQ.val trivial rfl (OV.move (v := sv p_s) rfl) ?_
    refine GQ.val trivial rfl (OV.move (v := .int .i64 r1) rfl) ?_
    refine GQ.val trivial rfl (OV.move (v := sv p_sep) rfl) ?_
    refine GQ.val trivial rfl (OV.lenStr (s := p_sep) rfl rfl) ?_
    refine GQ.val trivial rfl (OV.ibin (v := .int .i64 (w .i64 (r1 + (List.length p_sep : Int)))) rfl rfl rfl) ?_
    obtain ⟨h11, h12, h13, t10, h14, h⟩ := h
    refine GQ.val trivial rfl (OV.sliceStr (s := p_s) h11 h12 h13 h14 rfl rfl rfl rfl rfl rfl) ?_
    refine GQ.val trivial rfl (OV.assign (v := sv t4) rfl) ?_
    refine GQ.val trivial rfl (OV.assign (v := sv t10) rfl) ?_
    refine GQ.val trivial rfl (OV.assign (v := .bool true) rfl) ?_
    refine GQ.nil ?_
    refine GL.nil ?_
    exact GC.ret (fun _ _ hf hs => post_tmp3 rfl rfl rfl rfl hf hs ⟨t4, t10, true, rfl, h⟩)
  · replace h := And.right h hc3
    refine GC.skip ?_
    refine GC.seq ?_
    refine GC.region ?_
    refine GL.val trivial rfl (OV.move (v := sv p_s) rfl) ?_
    refine GL.val trivial rfl (OV.assign (v := sv p_s) rfl) ?_
    refine GL.val trivial rfl (OV.assign (v := sv []) rfl) ?_
    refine GL.val trivial rfl (OV.assign (v := .bool false) rfl) ?_
    refine GL.nil ?_
    exact GC.ret (fun _ _ hf hs => post_tmp3 rfl rfl rfl rfl hf hs ⟨p_s, [], false, rfl, h⟩)

def sh_cmp_isNaN_uint8 (C : Ctx) (p_x : Int) (K : Bool → Heap → Prop) (H : Heap) : Prop :=
  K ((p_x : Int) != p_x) H

theorem ad_cmp_isNaN_uint8 (C : Ctx) (p_x : Int) (K : Bool → Heap → Prop) (H : Heap) (h : sh_cmp_isNaN_uint8 C p_x K H) : c_cmp_isNaN_uint8 C p_x K H := by
  refine Spec.enter Tryz.func81 rfl Tryz.ntmps81 rfl ?_
  refine GC.sub [(0, .int .u8 p_x)] ⟨rfl, trivial⟩ ?_
  refine GC.seq ?_
  refine GC.region ?_
  refine GL.val trivial rfl (OV.assign (v := .bool false) rfl) ?_
  refine GL.nil ?_
  refine GC.seq ?_
  refine GC.region ?_
  refine GL.val trivial rfl (OV.move (v := .int .u8 p_x) rfl) ?_
  refine GL.val trivial rfl (OV.move (v := .int .u8 p_x) rfl) ?_
  refine GL.val trivial rfl (OV.ibin (v := .bool ((p_x : Int) != p_x)) rfl rfl rfl) ?_
  refine GL.val trivial rfl (OV.assign (v := .bool ((p_x : Int) != p_x)) rfl) ?_
  refine GL.nil ?_
  exact GC.ret (fun _ _ hf hs => post_tmp1 rfl rfl hf hs ⟨((p_x : Int) != p_x), rfl, h⟩)

def sh_strings_HasPrefix (C : Ctx) (p_s : Str) (p_prefix : Str) (K : Bool → Heap → Prop) (H : Heap) : Prop :=
  c_internal_stringslite_HasPrefix C p_s p_prefix (fun r1 H2 =>
 K r1 H2) H

theorem ad_strings_HasPrefix (C : Ctx) (p_s : Str) (p_prefix : Str) (K : Bool → Heap → Prop) (H : Heap) (h : sh_strings_HasPrefix C p_s p_prefix K H) : c_strings_HasPrefix C p_s p_prefix K H := by
  refine Spec.enter Tryz.func82 rfl Tryz.ntmps82 rfl ?_
  refine GC.sub [(0, sv p_s), (1, sv p_prefix)] ⟨rfl, rfl, trivial⟩ ?_
  refine GC.seq ?_
  refine GC.region ?_
  refine GL.val trivial rfl (OV.assign (v := .bool false) rfl) ?_
  refine GL.nil ?_
  refine GC.seq ?_
  refine GC.region ?_
  refine GL.val trivial rfl (OV.move (v := sv p_s) rfl) ?_
  refine GL.val trivial rfl (OV.move (v := sv p_prefix) rfl) ?_
  refine GL.call h trivial rfl ok_internal_stringslite_HasPrefix (vs := [sv p_s, sv p_prefix]) rfl ?_
  rintro _ H2 ⟨r1, rfl, h⟩
  refine GL.val trivial rfl (OV.assign (v := .bool r1) rfl) ?_
  refine GL.nil ?_
  exact GC.ret (fun _ _ hf hs => post_tmp1 rfl rfl hf hs ⟨r1, rfl, h⟩)

def sh_cmp_Compare_int (C : Ctx) (p_x : Int) (p_y : Int) (K : Int → Heap → Prop) (H : Heap) : Prop :=
  c_cmp_isNaN_int C p_x (fun r1 H2 =>
 c_cmp_isNaN_int C p_y (fun r3 H4 =>
 ift r1
 (ift r3
 (K 0 H4)
 (K (-1) H4))
 (ift r3
 (K 1 H4)
 (ift (decide ((p_x : Int) < p_y))
 (K (-1) H4)
 (ift (decide ((p_x : Int) > p_y))
 (K 1 H4)
 (K 0 H4))))) H2) H

theorem ad_cmp_Compare_int (C : Ctx) (p_x : Int) (p_y : Int) (K : Int → Heap → Prop) (H : Heap) (h : sh_cmp_Compare_int C p_x p_y K H) : c_cmp_Compare_int C p_x p_y K H := by
  refine Spec.enter Tryz.func83 rfl Tryz.ntmps83 rfl ?_
  refine GC.sub [(0, .int .i64 p_x), (1, .int .i64 p_y)] ⟨rfl, rfl, trivial⟩ ?_
  refine GC.seq ?_
  refine GC.region ?_
  refine GL.val trivial rfl (OV.assign (v := .int .i64 0) rfl) ?_
  refine GL.nil ?_
  refine GC.seq ?_
  refine GC.region ?_
  refine GL.val trivial rfl (OV.move (v := .int .i64 p_x) rfl) ?_
  refine GL.call h trivial rfl ok_cmp_isNaN_int (vs := [.int .i64 p_x]) rfl ?_
  rintro _ H2 ⟨r1, rfl, h⟩
  refine GL.val trivial rfl (OV.assign (v := .bool r1) rfl) ?_
  refine GL.nil ?_
  refine GC.seq ?_
  refine GC.region ?_
  refine GL.val trivial rfl (OV.move (v := .int .i64 p_y) rfl) ?_
  refine GL.call h trivial rfl ok_cmp_isNaN_int (vs := [.int .i64 p_y]) rfl ?_
  rintro _ H4 ⟨r3, rfl, h⟩
  refine GL.val trivial rfl (OV.assign (v := .bool r3) rfl) ?_
  refine GL.nil ?_
  refine GC.seq ?_
  refine GC.seq ?_
  refine GC.region ?_
  refine GL.val trivial rfl (OV.move (v := .bool r1) rfl) ?_
  refine GL.nil ?_
  refine GC.cond (b := r1) rfl (fun hc5 => ?_) (fun hc5 => ?_)
  · replace h := And.left h hc5
    refine GC.seq ?_
    refine GC.seq ?_
    refine GC.region ?_
    refine GL.val trivial rfl (OV.move (v := .bool r3) rfl) ?_
    refine GL.nil ?_
    refine GC.cond (b := r3) rfl (fun hc6 => ?_) (fun hc6 => ?_)
    · replace h := And.left h hc6
      refine GC.seq ?_
      refine GC.region ?_
      refine GL.val trivial rfl (OV.assign (v := .int .i64 0) rfl) ?_
      refine GL.nil ?_
      exact GC.ret (fun _ _ hf hs => post_tmp1 rfl rfl hf hs ⟨0, rfl, h⟩)
    · replace h := And.right h hc6
      refine GC.skip ?_
      refine GC.seq ?_
      refine GC.region ?_
      refine GL.val trivial rfl (OV.assign (v := .int .i64 (-1)) rfl) ?_
      refine GL.nil ?_
      exact GC.ret (fun _ _ hf hs => post_tmp1 rfl rfl hf hs ⟨(-1), rfl, h⟩)
  · replace h := And.right h hc5
    refine GC.skip ?_
    refine GC.seq ?_
    refine GC.seq ?_
    refine GC.region ?_
    refine GL.val trivial rfl (OV.move (v := .bool r3) rfl) ?_
    refine GL.nil ?_
    refine GC.cond (b := r3) rfl (fun hc7 => ?_) (fun hc7 => ?_)
    · replace h := And.left h hc7
      refine GC.seq ?_
      refine GC.region ?_
      refine GL.val trivial rfl (OV.assign (v := .int .i64 1) rfl) ?_
      refine GL.nil ?_
      exact GC.ret (fun _ _ hf hs => post_tmp1 rfl rfl hf hs ⟨1, rfl, h⟩)
    · replace h := And.right h hc7
      refine GC.skip ?_
      refine GC.seq ?_
      refine GC.seq ?_
      refine GC.region ?_
      refine GL.val trivial rfl (OV.move (v := .int .i64 p_x) rfl) ?_
      refine GL.val trivial rfl (OV.move (v := .int .i64 p_y) rfl) ?_
      refine GL.val trivial rfl (OV.ibin (v := .bool (decide ((p_x : Int) < p_y))) rfl rfl rfl) ?_
      refine GL.nil ?_
      refine GC.cond (b := decide ((p_x : Int) < p_y)) rfl (fun hc8 => ?_) (fun hc8 => ?_)
      · replace h := And.left h hc8
        refine GC.seq ?_
        refine GC.region ?_
        refine GL.val trivial rfl (OV.assign (v := .int .i64 (-1)) rfl) ?_
        refine GL.nil ?_
        exact GC.ret (fun _ _ hf hs => post_tmp1 rfl rfl hf hs ⟨(-1), rfl, h⟩)
      · replace h := And.right h hc8
        refine GC.skip ?_
        refine GC.seq ?_
        refine GC.seq ?_
        refine GC.region ?_
        refine GL.val trivial rfl (OV.move (v := .int .i64 p_x) rfl) ?_
        refine GL.val trivial rfl (OV.move (v := .int .i64 p_y) rfl) ?_
        refine GL.val trivial rfl (OV.ibin (v := .bool (decide ((p_x : Int) > p_y))) rfl rfl rfl) ?_
        refine GL.nil ?_
        refine GC.cond (b := decide ((p_x : Int) > p_y)) rfl (fun hc9 => ?_) (fun hc9 => ?_)
        · replace h := And.left h hc9
          refine GC.seq ?_
          refine GC.region ?_
          refine GL.val trivial rfl (OV.assign (v := .int .i64 1) rfl) ?_
          refine GL.nil ?_
          exact GC.ret (fun _ _ hf hs => post_tmp1 rfl rfl hf hs ⟨1, rfl, h⟩)
        · replace h := And.right h hc9
          refine GC.skip ?_
          refine GC.seq ?_
          refine GC.region ?_
          refine GL.val trivial rfl (OV.assign (v := .int .i64 0) rfl) ?_
          refine GL.nil ?_
          exact GC.ret (fun _ _ hf hs => post_tmp1 rfl rfl hf hs ⟨0, rfl, h⟩)

def sh_cmp_isNaN_string (C : Ctx) (p_x : Str) (K : Bool → Heap → Prop) (H : Heap) : Prop :=
  K (!(p_x == p_x)) H

theorem ad_cmp_isNaN_string (C : Ctx) (p_x : Str) (K : Bool → Heap → Prop) (H : Heap) (h : sh_cmp_isNaN_string C p_x K H) : c_cmp_isNaN_string C p_x K H := by
  refine Spec.enter Tryz.func84 rfl Tryz.ntmps84 rfl ?_
  refine GC.sub [(0, sv p_x)] ⟨rfl, trivial⟩ ?_
  refine GC.seq ?_
  refine GC.region ?_
  refine GL.val trivial rfl (OV.assign (v := .bool false) rfl) ?_
  refine GL.nil ?_
  refine GC.seq ?_
  refine GC.region ?_
  refine GL.val trivial rfl (OV.move (v := sv p_x) rfl) ?_
  refine GL.val trivial rfl (OV.move (v := sv p_x) rfl) ?_
  refine GL.val trivial rfl (OV.sbin (a := p_x) (b := p_x) (v := .bool (!(p_x == p_x))) rfl rfl rfl) ?_
  refine GL.val trivial rfl (OV.assign (v := .bool (!(p_x == p_x))) rfl) ?_
  refine GL.nil ?_
  exact GC.ret (fun _ _ hf hs => post_tmp1 rfl rfl hf hs ⟨(!(p_x == p_x)), rfl, h⟩)

def sh_cmp_isNaN_int64 (C : Ctx) (p_x : Int) (K : Bool → Heap → Prop) (H : Heap) : Prop :=
  K ((p_x : Int) != p_x) H

theorem ad_cmp_isNaN_int64 (C : Ctx) (p_x : Int) (K : Bool → Heap → Prop) (H : Heap) (h : sh_cmp_isNaN_int64 C p_x K H) : c_cmp_isNaN_int64 C p_x K H := by
  refine Spec.enter Tryz.func85 rfl Tryz.ntmps85 rfl ?_
  refine GC.sub [(0, .int .i64 p_x)] ⟨rfl, trivial⟩ ?_
  refine GC.seq ?_
  refine GC.region ?_
  refine GL.val trivial rfl (OV.assign (v := .bool false) rfl) ?_
  refine GL.nil ?_
  refine GC.seq ?_
  refine GC.region ?_
  refine GL.val trivial rfl (OV.move (v := .int .i64 p_x) rfl) ?_
  refine GL.val trivial rfl (OV.move (v := .int .i64 p_x) rfl) ?_
  refine GL.val trivial rfl (OV.ibin (v := .bool ((p_x : Int) != p_x)) rfl rfl rfl) ?_
  refine GL.val trivial rfl (OV.assign (v := .bool ((p_x : Int) != p_x)) rfl) ?_
  refine GL.nil ?_
  exact GC.ret (fun _ _ hf hs => post_tmp1 rfl rfl hf hs ⟨((p_x : Int) != p_x), rfl, h⟩)

def sh_ref02_Name (C : Ctx) (p_s : Str) (K : Bool → Heap → Prop) (H : Heap) : Prop :=
  jn (α := Bool) (fun b2 H11 =>
 ift b2
 (K false H11)
 (lp (α := Int) 0 H11 (fun x13 J14 H15 =>
 ift (decide ((x13 : Int) < (List.length p_s : Int)))
 (ixs p_s x13 fun c17 =>
 c_ref02_letter C (c17.toNat : Int) (fun r20 H21 =>
 ift ((((!r20) && (!((decide (((c17.toNat : Int) : Int) ≥ 65)) && (decide (((c17.toNat : Int) : Int) ≤ 90))))) && (!((decide (((c17.toNat : Int) : Int) ≥ 48)) && (decide (((c17.toNat : Int) : Int) ≤ 57))))) && (((c17.toNat : Int) : Int) != 95))
 (K false H21)
 (J14 (w .i64 (x13 + 1)) H21)) H15)
 (K true H15))))
 (fun J3 => ift ((p_s == ([] : Str)) || (decide (((List.length p_s : Int) : Int) > 32)))
 (J3 true H)
 (ixs p_s 0 fun c6 =>
 c_ref02_letter C (c6.toNat : Int) (fun r9 H10 =>
 J3 (!r9) H10) H))

theorem ad_ref02_Name (C : Ctx) (p_s : Str) (K : Bool → Heap → Prop) (H : Heap) (h : sh_ref02_Name C p_s K H) : c_ref02_Name C p_s K H := by
  refine Spec.enter Tryz.func86 rfl Tryz.ntmps86 rfl ?_
  refine GC.sub [(0, sv p_s)] ⟨rfl, trivial⟩ ?_
  refine GC.seq ?_
  refine GC.region ?_
  refine GL.val trivial rfl (OV.assign (v := .bool false) rfl) ?_
  refine GL.nil ?_
  refine GC.seq ?_
  refine GC.seq ?_
  refine GC.region ?_
  refine GL.val trivial rfl (OV.move (v := sv p_s) rfl) ?_
  refine GL.val trivial rfl (OV.sbin (a := p_s) (b := ([] : Str)) (v := .bool (p_s == ([] : Str))) rfl rfl rfl) ?_
  refine GL.val trivial rfl (OV.move (v := .bool (p_s == ([] : Str))) rfl) ?_
  refine GL.cut0 4 [(11, .bool ((p_s == ([] : Str)) || (decide (((List.length p_s : Int) : Int) > 32)))), (0, sv p_s)] ?_ ?_
  · rcases Bool.eq_false_or_eq_true (p_s == ([] : Str)) with hc1 | hc1
    · skip
      refine GL.skip ⟨_, rfl, .inl ⟨_, rfl, hc1⟩⟩ rfl ?_
      refine GL.skip ⟨_, rfl, .inl ⟨_, rfl, hc1⟩⟩ rfl ?_
      refine GL.skip ⟨_, rfl, .inl ⟨_, rfl, hc1⟩⟩ rfl ?_
      refine GL.val trivial rfl (OV.pickT (b := p_s == ([] : Str)) (v := .bool true) rfl hc1 rfl) ?_
      exact GL.jump0 (fun _ _ h => h) () rfl ⟨(by rw [hc1]; rfl), rfl, trivial⟩
    · skip
      refine GL.val ⟨_, _, rfl, rfl, hc1⟩ rfl (OV.move (v := sv p_s) rfl) ?_
      refine GL.val ⟨_, _, rfl, rfl, hc1⟩ rfl (OV.lenStr (s := p_s) rfl rfl) ?_
      refine GL.val ⟨_, _, rfl, rfl, hc1⟩ rfl (OV.ibin (v := .bool (decide (((List.length p_s : Int) : Int) > 32))) rfl rfl rfl) ?_
      refine GL.val trivial rfl (OV.pickF (b := p_s == ([] : Str)) (v := .bool (decide (((List.length p_s : Int) : Int) > 32))) rfl hc1 rfl) ?_
      exact GL.jump0 (fun _ _ h => h) () rfl ⟨(by rw [hc1]; rfl), rfl, trivial⟩
  refine GL.val trivial rfl (OV.move (v := .bool ((p_s == ([] : Str)) || (decide (((List.length p_s : Int) : Int) > 32)))) rfl) ?_
  obtain ⟨J3, h, hR4⟩ := h
  refine GL.cut (α := Bool) 5 J3 (fun b2 => [(17, .bool b2), (0, sv p_s)]) ?_ ?_
  · rcases Bool.eq_false_or_eq_true ((p_s == ([] : Str)) || (decide (((List.length p_s : Int) : Int) > 32))) with hc5 | hc5
    · skip
      replace h := And.left h hc5
      refine GL.skip ⟨_, rfl, .inl ⟨_, rfl, hc5⟩⟩ rfl ?_
      refine GL.skip ⟨_, rfl, .inl ⟨_, rfl, hc5⟩⟩ rfl ?_
      refine GL.skip ⟨_, rfl, .inl ⟨_, rfl, hc5⟩⟩ rfl ?_
      refine GL.skip ⟨_, rfl, .inl ⟨_, rfl, hc5⟩⟩ rfl ?_
      refine GL.val trivial rfl (OV.pickT (b := (p_s == ([] : Str)) || (decide (((List.length p_s : Int) : Int) > 32))) (v := .bool true) rfl hc5 rfl) ?_
      exact GL.jump (fun _ _ h => h) true h ⟨rfl, rfl, trivial⟩
    · skip
      replace h := And.right h hc5
      refine GL.val ⟨_, _, rfl, rfl, hc5⟩ rfl (OV.move (v := sv p_s) rfl) ?_
      obtain ⟨c6, ha7, hb8, h⟩ := h
      refine GL.val ⟨_, _, rfl, rfl, hc5⟩ rfl (OV.indexStr (s := p_s) rfl rfl rfl ha7 hb8) ?_
      refine GL.call h ⟨_, _, rfl, rfl, hc5⟩ rfl ok_ref02_letter (vs := [.int .u8 (c6.toNat : Int)]) rfl ?_
      rintro _ H10 ⟨r9, rfl, h⟩
      refine GL.val ⟨_, _, rfl, rfl, hc5⟩ rfl (OV.not rfl) ?_
      refine GL.val trivial rfl (OV.pickF (b := (p_s == ([] : Str)) || (decide (((List.length p_s : Int) : Int) > 32))) (v := .bool (!r9)) rfl hc5 rfl) ?_
      exact GL.jump (fun _ _ h => h) (!r9) h ⟨rfl, rfl, trivial⟩
  intro b2 H11 h
  replace h := hR4 b2 H11 h
  refine GL.nil ?_
  refine GC.cond (b := b2) rfl (fun hc12 => ?_) (fun hc12 => ?_)
  · replace h := And.left h hc12
    refine GC.seq ?_
    refine GC.region ?_
    refine GL.val trivial rfl (OV.assign (v := .bool false) rfl) ?_
    refine GL.nil ?_
    exact GC.ret (fun _ _ hf hs => post_tmp1 rfl rfl hf hs ⟨false, rfl, h⟩)
  · replace h := And.right h hc12
    refine GC.skip ?_
    refine GC.seq ?_
    refine GC.seq ?_
    refine GC.region ?_
    refine GL.val trivial rfl (OV.assign (v := .int .i64 0) rfl) ?_
    refine GL.nil ?_
    refine GC.block ?_
    refine GC.loop (α := Int) h (fun x13 => [(3, .int .i64 x13), (0, sv p_s)]) ⟨rfl, rfl, trivial⟩ ?_
    intro x13 H15 J14 h
    refine GC.seq ?_
    refine GC.seq ?_
    refine GC.region ?_
    refine GL.val trivial rfl (OV.move (v := .int .i64 x13) rfl) ?_
    refine GL.val trivial rfl (OV.move (v := sv p_s) rfl) ?_
    refine GL.val trivial rfl (OV.lenStr (s := p_s) rfl rfl) ?_
    refine GL.val trivial rfl (OV.ibin (v := .bool (decide ((x13 : Int) < (List.length p_s : Int)))) rfl rfl rfl) ?_
    refine GL.nil ?_
    refine GC.cond (b := decide ((x13 : Int) < (List.length p_s : Int))) rfl (fun hc16 => ?_) (fun hc16 => ?_)
    · replace h := And.left h hc16
      refine GC.skip ?_
      refine GC.seq ?_
      refine GC.block ?_
      refine GC.seq ?_
      refine GC.region ?_
      refine GL.val trivial rfl (OV.move (v := sv p_s) rfl) ?_
      refine GL.val trivial rfl (OV.move (v := .int .i64 x13) rfl) ?_
      obtain ⟨c17, ha18, hb19, h⟩ := h
      refine GL.val trivial rfl (OV.indexStr (s := p_s) rfl rfl rfl ha18 hb19) ?_
      refine GL.val trivial rfl (OV.assign (v := .int .u8 (c17.toNat : Int)) rfl) ?_
      refine GL.nil ?_
      refine GC.seq ?_
      refine GC.region ?_
      refine GL.val trivial rfl (OV.move (v := .int .u8 (c17.toNat : Int)) rfl) ?_
      refine GL.call h trivial rfl ok_ref02_letter (vs := [.int .u8 (c17.toNat : Int)]) rfl ?_
      rintro _ H21 ⟨r20, rfl, h⟩
      refine GL.val trivial rfl (OV.not rfl) ?_
      refine GL.val trivial rfl (OV.move (v := .bool (!r20)) rfl) ?_
      refine GL.cut0 8 [(38, .bool ((!r20) && (!((decide (((c17.toNat : Int) : Int) ≥ 65)) && (decide (((c17.toNat : Int) : Int) ≤ 90)))))), (0, sv p_s), (3, .int .i64 x13), (4, .int .u8 (c17.toNat : Int))] ?_ ?_
      · rcases Bool.eq_false_or_eq_true (!r20) with hc22 | hc22
        · skip
          refine GL.val ⟨_, _, rfl, rfl, hc22⟩ rfl (OV.move (v := .int .u8 (c17.toNat : Int)) rfl) ?_
          refine GL.val ⟨_, _, rfl, rfl, hc22⟩ rfl (OV.ibin (v := .bool (decide (((c17.toNat : Int) : Int) ≥ 65))) rfl rfl rfl) ?_
          refine GL.val ⟨_, _, rfl, rfl, hc22⟩ rfl (OV.move (v := .bool (decide (((c17.toNat : Int) : Int) ≥ 65))) rfl) ?_
          refine GL.cut0 3 [(36, .bool ((decide (((c17.toNat : Int) : Int) ≥ 65)) && (decide (((c17.toNat : Int) : Int) ≤ 90)))), (0, sv p_s), (3, .int .i64 x13), (4, .int .u8 (c17.toNat : Int)), (30, .bool (!r20))] ?_ ?_
          · rcases Bool.eq_false_or_eq_true (decide (((c17.toNat : Int) : Int) ≥ 65)) with hc23 | hc23
            · skip
              refine GL.val ⟨_, _, rfl, rfl, hc23⟩ rfl (OV.move (v := .int .u8 (c17.toNat : Int)) rfl) ?_
              refine GL.val ⟨_, _, rfl, rfl, hc23⟩ rfl (OV.ibin (v := .bool (decide (((c17.toNat : Int) : Int) ≤ 90))) rfl rfl rfl) ?_
              refine GL.val ⟨_, _, rfl, rfl, hc22⟩ rfl (OV.pickT (b := decide (((c17.toNat : Int) : Int) ≥ 65)) (v := .bool (decide (((c17.toNat : Int) : Int) ≤ 90))) rfl hc23 rfl) ?_
              exact GL.jump0 (fun _ _ h => h) () rfl ⟨(by rw [hc23]; rfl), rfl, rfl, rfl, rfl, trivial⟩
            · skip
              refine GL.skip ⟨_, rfl, .inl ⟨_, rfl, hc23⟩⟩ rfl ?_
              refine GL.skip ⟨_, rfl, .inl ⟨_, rfl, hc23⟩⟩ rfl ?_
              refine GL.val ⟨_, _, rfl, rfl, hc22⟩ rfl (OV.pickF (b := decide (((c17.toNat : Int) : Int) ≥ 65)) (v := .bool false) rfl hc23 rfl) ?_
              exact GL.jump0 (fun _ _ h => h) () rfl ⟨(by rw [hc23]; rfl), rfl, rfl, rfl, rfl, trivial⟩
          refine GL.val ⟨_, _, rfl, rfl, hc22⟩ rfl (OV.not rfl) ?_
          refine GL.val trivial rfl (OV.pickT (b := !r20) (v := .bool (!((decide (((c17.toNat : Int) : Int) ≥ 65)) && (decide (((c17.toNat : Int) : Int) ≤ 90))))) rfl hc22 rfl) ?_
          exact GL.jump0 (fun _ _ h => h) () rfl ⟨(by rw [hc22]; rfl), rfl, rfl, rfl, trivial⟩
        · skip
          refine GL.skip ⟨_, rfl, .inl ⟨_, rfl, hc22⟩⟩ rfl ?_
          refine GL.skip ⟨_, rfl, .inl ⟨_, rfl, hc22⟩⟩ rfl ?_
          refine GL.skip ⟨_, rfl, .inl ⟨_, rfl, hc22⟩⟩ rfl ?_
          refine GL.skip ⟨_, rfl, .inr rfl⟩ rfl ?_
          refine GL.skip ⟨_, rfl, .inr rfl⟩ rfl ?_
          refine GL.skip ⟨_, rfl, .inl ⟨_, rfl, hc22⟩⟩ rfl ?_
          refine GL.skip ⟨_, rfl, .inl ⟨_, rfl, hc22⟩⟩ rfl ?_
          refine GL.val trivial rfl (OV.pickF (b := !r20) (v := .bool false) rfl hc22 rfl) ?_
          exact GL.jump0 (fun _ _ h => h) () rfl ⟨(by rw [hc22]; rfl), rfl, rfl, rfl, trivial⟩
      refine GL.val trivial rfl (OV.move (v := .bool ((!r20) && (!((decide (((c17.toNat : Int) : Int) ≥ 65)) && (decide (((c17.toNat : Int) : Int) ≤ 90)))))) rfl) ?_
      refine GL.cut0 8 [(47, .bool (((!r20) && (!((decide (((c17.toNat : Int) : Int) ≥ 65)) && (decide (((c17.toNat : Int) : Int) ≤ 90))))) && (!((decide (((c17.toNat : Int) : Int) ≥ 48)) && (decide (((c17.toNat : Int) : Int) ≤ 57)))))), (0, sv p_s), (3, .int .i64 x13), (4, .int .u8 (c17.toNat : Int))] ?_ ?_
      · rcases Bool.eq_false_or_eq_true ((!r20) && (!((decide (((c17.toNat : Int) : Int) ≥ 65)) && (decide (((c17.toNat : Int) : Int) ≤ 90))))) with hc24 | hc24
        · skip
          refine GL.val ⟨_, _, rfl, rfl, hc24⟩ rfl (OV.move (v := .int .u8 (c17.toNat : Int)) rfl) ?_
          refine GL.val ⟨_, _, rfl, rfl, hc24⟩ rfl (OV.ibin (v := .bool (decide (((c17.toNat : Int) : Int) ≥ 48))) rfl rfl rfl) ?_
          refine GL.val ⟨_, _, rfl, rfl, hc24⟩ rfl (OV.move (v := .bool (decide (((c17.toNat : Int) : Int) ≥ 48))) rfl) ?_
          refine GL.cut0 3 [(45, .bool ((decide (((c17.toNat : Int) : Int) ≥ 48)) && (decide (((c17.toNat : Int) : Int) ≤ 57)))), (0, sv p_s), (3, .int .i64 x13), (4, .int .u8 (c17.toNat : Int)), (39, .bool ((!r20) && (!((decide (((c17.toNat : Int) : Int) ≥ 65)) && (decide (((c17.toNat : Int) : Int) ≤ 90))))))] ?_ ?_
          · rcases Bool.eq_false_or_eq_true (decide (((c17.toNat : Int) : Int) ≥ 48)) with hc25 | hc25
            · skip
              refine GL.val ⟨_, _, rfl, rfl, hc25⟩ rfl (OV.move (v := .int .u8 (c17.toNat : Int)) rfl) ?_
              refine GL.val ⟨_, _, rfl, rfl, hc25⟩ rfl (OV.ibin (v := .bool (decide (((c17.toNat : Int) : Int) ≤ 57))) rfl rfl rfl) ?_
              refine GL.val ⟨_, _, rfl, rfl, hc24⟩ rfl (OV.pickT (b := decide (((c17.toNat : Int) : Int) ≥ 48)) (v := .bool (decide (((c17.toNat : Int) : Int) ≤ 57))) rfl hc25 rfl) ?_
              exact GL.jump0 (fun _ _ h => h) () rfl ⟨(by rw [hc25]; rfl), rfl, rfl, rfl, rfl, trivial⟩
            · skip
              refine GL.skip ⟨_, rfl, .inl ⟨_, rfl, hc25⟩⟩ rfl ?_
              refine GL.skip ⟨_, rfl, .inl ⟨_, rfl, hc25⟩⟩ rfl ?_
              refine GL.val ⟨_, _, rfl, rfl, hc24⟩ rfl (OV.pickF (b := decide (((c17.toNat : Int) : Int) ≥ 48)) (v := .bool false) rfl hc25 rfl) ?_
              exact GL.jump0 (fun _ _ h => h) () rfl ⟨(by rw [hc25]; rfl), rfl, rfl, rfl, rfl, trivial⟩
          refine GL.val ⟨_, _, rfl, rfl, hc24⟩ rfl (OV.not rfl) ?_
          refine GL.val trivial rfl (OV.pickT (b := (!r20) && (!((decide (((c17.toNat : Int) : Int) ≥ 65)) && (decide (((c17.toNat : Int) : Int) ≤ 90))))) (v := .bool (!((decide (((c17.toNat : Int) : Int) ≥ 48)) && (decide (((c17.toNat : Int) : Int) ≤ 57))))) rfl hc24 rfl) ?_
          exact GL.jump0 (fun _ _ h => h) () rfl ⟨(by rw [hc24]; rfl), rfl, rfl, rfl, trivial⟩
        · skip
          refine GL.skip ⟨_, rfl, .inl ⟨_, rfl, hc24⟩⟩ rfl ?_
          refine GL.skip ⟨_, rfl, .inl ⟨_, rfl, hc24⟩⟩ rfl ?_
          refine GL.skip ⟨_, rfl, .inl ⟨_, rfl, hc24⟩⟩ rfl ?_
          refine GL.skip ⟨_, rfl, .inr rfl⟩ rfl ?_
          refine GL.skip ⟨_, rfl, .inr rfl⟩ rfl ?_
          refine GL.skip ⟨_, rfl, .inl ⟨_, rfl, hc24⟩⟩ rfl ?_
          refine GL.skip ⟨_, rfl, .inl ⟨_, rfl, hc24⟩⟩ rfl ?_
          refine GL.val trivial rfl (OV.pickF (b := (!r20) && (!((decide (((c17.toNat : Int) : Int) ≥ 65)) && (decide (((c17.toNat : Int) : Int) ≤ 90))))) (v := .bool false) rfl hc24 rfl) ?_
          exact GL.jump0 (fun _ _ h => h) () rfl ⟨(by rw [hc24]; rfl), rfl, rfl, rfl, trivial⟩
      refine GL.val trivial rfl (OV.move (v := .bool (((!r20) && (!((decide (((c17.toNat : Int) : Int) ≥ 65)) && (decide (((c17.toNat : Int) : Int) ≤ 90))))) && (!((decide (((c17.toNat : Int) : Int) ≥ 48)) && (decide (((c17.toNat : Int) : Int) ≤ 57)))))) rfl) ?_
      refine GL.cut0 3 [(51, .bool ((((!r20) && (!((decide (((c17.toNat : Int) : Int) ≥ 65)) && (decide (((c17.toNat : Int) : Int) ≤ 90))))) && (!((decide (((c17.toNat : Int) : Int) ≥ 48)) && (decide (((c17.toNat : Int) : Int) ≤ 57))))) && (((c17.toNat : Int) : Int) != 95))), (0, sv p_s), (3, .int .i64 x13)] ?_ ?_
      · rcases Bool.eq_false_or_eq_true (((!r20) && (!((decide (((c17.toNat : Int) : Int) ≥ 65)) && (decide (((c17.toNat : Int) : Int) ≤ 90))))) && (!((decide (((c17.toNat : Int) : Int) ≥ 48)) && (decide (((c17.toNat : Int) : Int) ≤ 57))))) with hc26 | hc26
        · skip
          refine GL.val ⟨_, _, rfl, rfl, hc26⟩ rfl (OV.move (v := .int .u8 (c17.toNat : Int)) rfl) ?_
          refine GL.val ⟨_, _, rfl, rfl, hc26⟩ rfl (OV.ibin (v := .bool (((c17.toNat : Int) : Int) != 95)) rfl rfl rfl) ?_
          refine GL.val trivial rfl (OV.pickT (b := ((!r20) && (!((decide (((c17.toNat : Int) : Int) ≥ 65)) && (decide (((c17.toNat : Int) : Int) ≤ 90))))) && (!((decide (((c17.toNat : Int) : Int) ≥ 48)) && (decide (((c17.toNat : Int) : Int) ≤ 57))))) (v := .bool (((c17.toNat : Int) : Int) != 95)) rfl hc26 rfl) ?_
          exact GL.jump0 (fun _ _ h => h) () rfl ⟨(by rw [hc26]; rfl), rfl, rfl, trivial⟩
        · skip
          refine GL.skip ⟨_, rfl, .inl ⟨_, rfl, hc26⟩⟩ rfl ?_
          refine GL.skip ⟨_, rfl, .inl ⟨_, rfl, hc26⟩⟩ rfl ?_
          refine GL.val trivial rfl (OV.pickF (b := ((!r20) && (!((decide (((c17.toNat : Int) : Int) ≥ 65)) && (decide (((c17.toNat : Int) : Int) ≤ 90))))) && (!((decide (((c17.toNat : Int) : Int) ≥ 48)) && (decide (((c17.toNat : Int) : Int) ≤ 57))))) (v := .bool false) rfl hc26 rfl) ?_
          exact GL.jump0 (fun _ _ h => h) () rfl ⟨(by rw [hc26]; rfl), rfl, rfl, trivial⟩
      refine GL.nil ?_
      refine GC.cond (b := (((!r20) && (!((decide (((c17.toNat : Int) : Int) ≥ 65)) && (decide (((c17.toNat : Int) : Int) ≤ 90))))) && (!((decide (((c17.toNat : Int) : Int) ≥ 48)) && (decide (((c17.toNat : Int) : Int) ≤ 57))))) && (((c17.toNat : Int) : Int) != 95)) rfl (fun hc27 => ?_) (fun hc27 => ?_)
      · replace h := And.left h hc27
        refine GC.seq ?_
        refine GC.region ?_
        refine GL.val trivial rfl (OV.assign (v := .bool false) rfl) ?_
        refine GL.nil ?_
        exact GC.ret (fun _ _ hf hs => post_tmp1 rfl rfl hf hs ⟨false, rfl, h⟩)
      · replace h := And.right h hc27
        refine GC.skip_to (fun _ _ h => h) ?_
        refine GC.region ?_
        refine GL.val trivial rfl (OV.move (v := .int .i64 x13) rfl) ?_
        refine GL.val trivial rfl (OV.ibin (v := .int .i64 (w .i64 (x13 + 1))) rfl rfl rfl) ?_
        refine GL.val trivial rfl (OV.assign (v := .int .i64 (w .i64 (x13 + 1))) rfl) ?_
        exact GL.jump (fun _ _ h => h) (w .i64 (x13 + 1)) h ⟨rfl, rfl, trivial⟩
    · replace h := And.right h hc16
      refine GC.exit_to (fun _ _ h => h) ?_
      refine GC.seq ?_
      refine GC.region ?_
      refine GL.val trivial rfl (OV.assign (v := .bool true) rfl) ?_
      refine GL.nil ?_
      exact GC.ret (fun _ _ hf hs => post_tmp1 rfl rfl hf hs ⟨true, rfl, h⟩)

def sh_slices_rotateCmpFunc_api_Value (C : Ctx) (p_data : Sl) (p_a : Int) (p_m : Int) (p_b : Int) (p_cmp : Value) (K : Heap → Prop) (H : Heap) : Prop :=
  lp (α := Int × Int) ((w .i64 (p_m - p_a)), (w .i64 (p_b - p_m))) H (fun x1 J2 H3 =>
 ift ((x1.1 : Int) != x1.2)
 (ift (decide ((x1.1 : Int) > x1.2))
 (c_slices_swapRangeCmpFunc_api_Value C p_data (w .i64 (p_m - x1.1)) p_m x1.2 p_cmp (fun H6 =>
 J2 ((w .i64 (x1.1 - x1.2)), x1.2) H6) H3)
 (c_slices_swapRangeCmpFunc_api_Value C p_data (w .i64 (p_m - x1.1)) (w .i64 ((w .i64 (p_m + x1.2)) - x1.1)) x1.1 p_cmp (fun H7 =>
 J2 (x1.1, (w .i64 (x1.2 - x1.1))) H7) H3))
 (c_slices_swapRangeCmpFunc_api_Value C p_data (w .i64 (p_m - x1.1)) p_m x1.1 p_cmp (fun H8 =>
 K H8) H3))

theorem ad_slices_rotateCmpFunc_api_Value (C : Ctx) (p_data : Sl) (p_a : Int) (p_m : Int) (p_b : Int) (p_cmp : Value) (K : Heap → Prop) (H : Heap) (h : sh_slices_rotateCmpFunc_api_Value C p_data p_a p_m p_b p_cmp K H) : c_slices_rotateCmpFunc_api_Value C p_data p_a p_m p_b p_cmp K H := by
  refine Spec.enter Tryz.func87 rfl Tryz.ntmps87 rfl ?_
  refine GC.sub [(0, slv p_data), (1, .int .i64 p_a), (2, .int .i64 p_m), (3, .int .i64 p_b), (4, p_cmp)] ⟨rfl, rfl, rfl, rfl, rfl, trivial⟩ ?_
  refine GC.seq ?_
  refine GC.region ?_
  refine GL.val trivial rfl (OV.move (v := .int .i64 p_m) rfl) ?_
  refine GL.val trivial rfl (OV.move (v := .int .i64 p_a) rfl) ?_
  refine GL.val trivial rfl (OV.ibin (v := .int .i64 (w .i64 (p_m - p_a))) rfl rfl rfl) ?_
  refine GL.val trivial rfl (OV.assign (v := .int .i64 (w .i64 (p_m - p_a))) rfl) ?_
  refine GL.nil ?_
  refine GC.seq ?_
  refine GC.region ?_
  refine GL.val trivial rfl (OV.move (v := .int .i64 p_b) rfl) ?_
  refine GL.val trivial rfl (OV.move (v := .int .i64 p_m) rfl) ?_
  refine GL.val trivial rfl (OV.ibin (v := .int .i64 (w .i64 (p_b - p_m))) rfl rfl rfl) ?_
  refine GL.val trivial rfl (OV.assign (v := .int .i64 (w .i64 (p_b - p_m))) rfl) ?_
  refine GL.nil ?_
  refine GC.seq ?_
  refine GC.block ?_
  refine GC.loop (α := Int × Int) h (fun x1 => [(10, .int .i64 x1.1), (11, .int .i64 x1.2), (0, slv p_data), (2, .int .i64 p_m), (4, p_cmp)]) ⟨rfl, rfl, rfl, rfl, rfl, trivial⟩ ?_
  intro x1 H3 J2 h
  refine GC.seq ?_
  refine GC.seq ?_
  refine GC.region ?_
  refine GL.val trivial rfl (OV.move (v := .int .i64 x1.1) rfl) ?_
  refine GL.val trivial rfl (OV.move (v := .int .i64 x1.2) rfl) ?_
  refine GL.val trivial rfl (OV.ibin (v := .bool ((x1.1 : Int) != x1.2)) rfl rfl rfl) ?_
  refine GL.nil ?_
  refine GC.cond (b := (x1.1 : Int) != x1.2) rfl (fun hc4 => ?_) (fun hc4 => ?_)
  · replace h := And.left h hc4
    refine GC.skip ?_
    refine GC.block ?_
    refine GC.seq ?_
    refine GC.region ?_
    refine GL.val trivial rfl (OV.move (v := .int .i64 x1.1) rfl) ?_
    refine GL.val trivial rfl (OV.move (v := .int .i64 x1.2) rfl) ?_
    refine GL.val trivial rfl (OV.ibin (v := .bool (decide ((x1.1 : Int) > x1.2))) rfl rfl rfl) ?_
    refine GL.nil ?_
    refine GC.cond (b := decide ((x1.1 : Int) > x1.2)) rfl (fun hc5 => ?_) (fun hc5 => ?_)
    · replace h := And.left h hc5
      refine GC.seq ?_
      refine GC.region ?_
      refine GL.val trivial rfl (OV.move (v := slv p_data) rfl) ?_
      refine GL.val trivial rfl (OV.move (v := .int .i64 p_m) rfl) ?_
      refine GL.val trivial rfl (OV.move (v := .int .i64 x1.1) rfl) ?_
      refine GL.val trivial rfl (OV.ibin (v := .int .i64 (w .i64 (p_m - x1.1))) rfl rfl rfl) ?_
      refine GL.val trivial rfl (OV.move (v := .int .i64 p_m) rfl) ?_
      refine GL.val trivial rfl (OV.move (v := .int .i64 x1.2) rfl) ?_
      refine GL.val trivial rfl (OV.move (v := p_cmp) rfl) ?_
      refine GL.call h trivial rfl ok_slices_swapRangeCmpFunc_api_Value (vs := [slv p_data, .int .i64 (w .i64 (p_m - x1.1)), .int .i64 p_m, .int .i64 x1.2, p_cmp]) rfl ?_
      rintro _ H6 ⟨rfl, h⟩
      refine GL.nil ?_
      refine GC.region ?_
      refine GL.val trivial rfl (OV.move (v := .int .i64 x1.1) rfl) ?_
      refine GL.val trivial rfl (OV.move (v := .int .i64 x1.2) rfl) ?_
      refine GL.val trivial rfl (OV.ibin (v := .int .i64 (w .i64 (x1.1 - x1.2))) rfl rfl rfl) ?_
      refine GL.val trivial rfl (OV.assign (v := .int .i64 (w .i64 (x1.1 - x1.2))) rfl) ?_
      exact GL.jump (fun _ _ h => h) ((w .i64 (x1.1 - x1.2)), x1.2) h ⟨rfl, rfl, rfl, rfl, rfl, trivial⟩
    · replace h := And.right h hc5
      refine GC.seq ?_
      refine GC.region ?_
      refine GL.val trivial rfl (OV.move (v := slv p_data) rfl) ?_
      refine GL.val trivial rfl (OV.move (v := .int .i64 p_m) rfl) ?_
      refine GL.val trivial rfl (OV.move (v := .int .i64 x1.1) rfl) ?_
      refine GL.val trivial rfl (OV.ibin (v := .int .i64 (w .i64 (p_m - x1.1))) rfl rfl rfl) ?_
      refine GL.val trivial rfl (OV.move (v := .int .i64 p_m) rfl) ?_
      refine GL.val trivial rfl (OV.move (v := .int .i64 x1.2) rfl) ?_
      refine GL.val trivial rfl (OV.ibin (v := .int .i64 (w .i64 (p_m + x1.2))) rfl rfl rfl) ?_
      refine GL.val trivial rfl (OV.move (v := .int .i64 x1.1) rfl) ?_
      refine GL.val trivial rfl (OV.ibin (v := .int .i64 (w .i64 ((w .i64 (p_m + x1.2)) - x1.1))) rfl rfl rfl) ?_
      refine GL.val trivial rfl (OV.move (v := .int .i64 x1.1) rfl) ?_
      refine GL.val trivial rfl (OV.move (v := p_cmp) rfl) ?_
      refine GL.call h trivial rfl ok_slices_swapRangeCmpFunc_api_Value (vs := [slv p_data, .int .i64 (w .i64 (p_m - x1.1)), .int .i64 (w .i64 ((w .i64 (p_m + x1.2)) - x1.1)), .int .i64 x1.1, p_cmp]) rfl ?_
      rintro _ H7 ⟨rfl, h⟩
      refine GL.nil ?_
      refine GC.region ?_
      refine GL.val trivial rfl (OV.move (v := .int .i64 x1.2) rfl) ?_
      refine GL.val trivial rfl (OV.move (v := .int .i64 x1.1) rfl) ?_
      refine GL.val trivial rfl (OV.ibin (v := .int .i64 (w .i64 (x1.2 - x1.1))) rfl rfl rfl) ?_
      refine GL.val trivial rfl (OV.assign (v := .int .i64 (w .i64 (x1.2 - x1.1))) rfl) ?_
      exact GL.jump (fun _ _ h => h) (x1.1, (w .i64 (x1.2 - x1.1))) h ⟨rfl, rfl, rfl, rfl, rfl, trivial⟩
  · replace h := And.right h hc4
    refine GC.exit_to (fun _ _ h => h) ?_
    refine GC.region ?_
    refine GL.val trivial rfl (OV.move (v := slv p_data) rfl) ?_
    refine GL.val trivial rfl (OV.move (v := .int .i64 p_m) rfl) ?_
    refine GL.val trivial rfl (OV.move (v := .int .i64 x1.1) rfl) ?_
    refine GL.val trivial rfl (OV.ibin (v := .int .i64 (w .i64 (p_m - x1.1))) rfl rfl rfl) ?_
    refine GL.val trivial rfl (OV.move (v := .int .i64 p_m) rfl) ?_
    refine GL.val trivial rfl (OV.move (v := .int .i64 x1.1) rfl) ?_
    refine GL.val trivial rfl (OV.move (v := p_cmp) rfl) ?_
    refine GL.call h trivial rfl ok_slices_swapRangeCmpFunc_api_Value (vs := [slv p_data, .int .i64 (w .i64 (p_m - x1.1)), .int .i64 p_m, .int .i64 x1.1, p_cmp]) rfl ?_
    rintro _ H8 ⟨rfl, h⟩
    exact GL.ends (fun _ _ hf hs => post_tmp0 rfl hf hs ⟨rfl, h⟩)

def sh_internal_stringslite_TrimPrefix (C : Ctx) (p_s : Str) (p_prefix : Str) (K : Str → Heap → Prop) (H : Heap) : Prop :=
  c_internal_stringslite_HasPrefix C p_s p_prefix (fun r1 H2 =>
 ift r1
 (slS p_s (List.length p_prefix : Int) (List.length p_s : Int) fun t4 =>
 K t4 H2)
 (K p_s H2)) H

theorem ad_internal_stringslite_TrimPrefix (C : Ctx) (p_s : Str) (p_prefix : Str) (K : Str → Heap → Prop) (H : Heap) (h : sh_internal_stringslite_TrimPrefix C p_s p_prefix K H) : c_internal_stringslite_TrimPrefix C p_s p_prefix K H := by
  refine Spec.enter Tryz.func88 rfl Tryz.ntmps88 rfl ?_
  refine GC.sub [(0, sv p_s), (1, sv p_prefix)] ⟨rfl, rfl, trivial⟩ ?_
  refine GC.seq ?_
  refine GC.region ?_
  refine GL.val trivial rfl (OV.assign (v := sv []) rfl) ?_
  refine GL.nil ?_
  refine GC.seq ?_
  refine GC.seq ?_
  refine GC.region ?_
  refine GL.val trivial rfl (OV.move (v := sv p_s) rfl) ?_
  refine GL.val trivial rfl (OV.move (v := sv p_prefix) rfl) ?_
  refine GL.call h trivial rfl ok_internal_stringslite_HasPrefix (vs := [sv p_s, sv p_prefix]) rfl ?_
  rintro _ H2 ⟨r1, rfl, h⟩
  refine GL.nil ?_
  refine GC.cond (b := r1) rfl (fun hc3 => ?_) (fun hc3 => ?_)
  · replace h := And.left h hc3
    refine GC.seq ?_
    refine GC.region ?_
    refine GL.val trivial rfl (OV.move (v := sv p_s) rfl) ?_
    refine GL.val trivial rfl (OV.move (v := sv p_prefix) rfl) ?_
    refine GL.val trivial rfl (OV.lenStr (s := p_prefix) rfl rfl) ?_
    obtain ⟨h5, h6, h7, t4, h8, h⟩ := h
    refine GL.val trivial rfl (OV.sliceStr (s := p_s) h5 h6 h7 h8 rfl rfl rfl rfl rfl rfl) ?_
    refine GL.val trivial rfl (OV.assign (v := sv t4) rfl) ?_
    refine GL.nil ?_
    exact GC.ret (fun _ _ hf hs => post_tmp1 rfl rfl hf hs ⟨t4, rfl, h⟩)
  · replace h := And.right h hc3
    refine GC.skip ?_
    refine GC.seq ?_
    refine GC.region ?_
    refine GL.val trivial rfl (OV.move (v := sv p_s) rfl) ?_
    refine GL.val trivial rfl (OV.assign (v := sv p_s) rfl) ?_
    refine GL.nil ?_
    exact GC.ret (fun _ _ hf hs => post_tmp1 rfl rfl hf hs ⟨p_s, rfl, h⟩)

end Sx
end

noncomputable section
set_option linter.unusedVariables false
set_option maxRecDepth 100000
namespace Sx
open Go Go.Proofs
def sh_strings_makeASCIISet (C : Ctx) (p_chars : Str) (K : List Value → Bool → Heap → Prop) (H : Heap) : Prop :=
  nw ((List.replicate 256 (.bool false : Value))) (fun b1 H2 =>
 lp (α := Int) 0 H2 (fun x3 J4 H5 =>
 ift (decide ((x3 : Int) < (List.length p_chars : Int)))
 (ixs p_chars x3 fun c7 =>
 ift (decide (((c7.toNat : Int) : Int) ≥ 128))
 (ldC H5 256 (b1, 0) fun x11 =>
 stC 256 (b1, 0) x11 (fun H14 =>
 ldC H14 256 (b1, 0) fun x17 =>
 K x17 false H14) H5)
 (ixr (b1, 0) 256 (c7.toNat : Int) <|
 st ((b1, 0).1, (b1, 0).2 + ((c7.toNat : Int) : Int).toNat * 1) (.bool true) (fun H22 =>
 J4 (w .i64 (x3 + 1)) H22) H5))
 (ldC H5 256 (b1, 0) fun x23 =>
 stC 256 (b1, 0) x23 (fun H26 =>
 ldC H26 256 (b1, 0) fun x29 =>
 K x29 true H26) H5))) H

theorem ad_strings_makeASCIISet (C : Ctx) (p_chars : Str) (K : List Value → Bool → Heap → Prop) (H : Heap) (h : sh_strings_makeASCIISet C p_chars K H) : c_strings_makeASCIISet C p_chars K H := by
  refine Spec.enter Tryz.func91 rfl Tryz.ntmps91 rfl ?_
  refine GC.sub [(0, sv p_chars)] ⟨rfl, trivial⟩ ?_
  refine GC.seq ?_
  refine GC.region ?_
  refine GL.alloc (cs := (List.replicate 256 (.bool false : Value))) h trivial rfl rfl rfl ?_
  intro b1 H2 h
  refine GL.val trivial rfl (OV.assign (v := .bool false) rfl) ?_
  refine GL.nil ?_
  refine GC.seq ?_
  refine GC.seq ?_
  refine GC.region ?_
  refine GL.val trivial rfl (OV.assign (v := .int .i64 0) rfl) ?_
  refine GL.nil ?_
  refine GC.block ?_
  refine GC.loop (α := Int) h (fun x3 => [(4, .int .i64 x3), (0, sv p_chars), (2, pv (some (b1, 0)))]) ⟨rfl, rfl, rfl, trivial⟩ ?_
  intro x3 H5 J4 h
  refine GC.seq ?_
  refine GC.seq ?_
  refine GC.region ?_
  refine GL.val trivial rfl (OV.move (v := .int .i64 x3) rfl) ?_
  refine GL.val trivial rfl (OV.move (v := sv p_chars) rfl) ?_
  refine GL.val trivial rfl (OV.lenStr (s := p_chars) rfl rfl) ?_
  refine GL.val trivial rfl (OV.ibin (v := .bool (decide ((x3 : Int) < (List.length p_chars : Int)))) rfl rfl rfl) ?_
  refine GL.nil ?_
  refine GC.cond (b := decide ((x3 : Int) < (List.length p_chars : Int))) rfl (fun hc6 => ?_) (fun hc6 => ?_)
  · replace h := And.left h hc6
    refine GC.skip ?_
    refine GC.seq ?_
    refine GC.block ?_
    refine GC.seq ?_
    refine GC.region ?_
    refine GL.val trivial rfl (OV.move (v := sv p_chars) rfl) ?_
    refine GL.val trivial rfl (OV.move (v := .int .i64 x3) rfl) ?_
    obtain ⟨c7, ha8, hb9, h⟩ := h
    refine GL.val trivial rfl (OV.indexStr (s := p_chars) rfl rfl rfl ha8 hb9) ?_
    refine GL.val trivial rfl (OV.assign (v := .int .u8 (c7.toNat : Int)) rfl) ?_
    refine GL.nil ?_
    refine GC.seq ?_
    refine GC.seq ?_
    refine GC.region ?_
    refine GL.val trivial rfl (OV.move (v := .int .u8 (c7.toNat : Int)) rfl) ?_
    refine GL.val trivial rfl (OV.ibin (v := .bool (decide (((c7.toNat : Int) : Int) ≥ 128))) rfl rfl rfl) ?_
    refine GL.nil ?_
    refine GC.cond (b := decide (((c7.toNat : Int) : Int) ≥ 128)) rfl (fun hc10 => ?_) (fun hc10 => ?_)
    · replace h := And.left h hc10
      refine GC.seq ?_
      refine GC.region ?_
      obtain ⟨x11, hl13, hr12, h⟩ := h
      refine GL.val trivial rfl (OV.loadT (p := (b1, 0)) (cs := x11) rfl rfl (by rw [hl13]; rfl) hr12) ?_
      obtain ⟨hl15, h116, h⟩ := h
      refine GL.storeT (p := (b1, 0)) (vs := x11) h trivial rfl rfl h116 (by rw [hl15]; rfl) ?_
      intro H14 h
      refine GL.val trivial rfl (OV.assign (v := .bool false) rfl) ?_
      refine GL.nil ?_
      obtain ⟨x17, hl19, hr18, h⟩ := h
      exact GC.ret (fun _ _ hf hs => post_res2 rfl (RV.cellT (p := (b1, 0)) (cs := x17) rfl rfl (by rw [hl19]; rfl) hr18) (RV.tmp rfl) hf hs ⟨x17, false, rfl, h⟩)
    · replace h := And.right h hc10
      refine GC.skip ?_
      refine GC.region ?_
      refine GL.val trivial rfl (OV.move (v := .int .u8 (c7.toNat : Int)) rfl) ?_
      obtain ⟨ha20, hb21, h⟩ := h
      refine GL.val trivial rfl (OV.indexAddrA (p := (b1, 0)) rfl rfl rfl rfl ha20 hb21) ?_
      refine GL.store (p := ((b1, 0).1, (b1, 0).2 + ((c7.toNat : Int) : Int).toNat * 1)) (v := .bool true) h trivial rfl rfl rfl rfl ?_
      intro H22 h
      refine GL.nil_to (fun _ _ h => h) ?_
      refine GC.region ?_
      refine GL.val trivial rfl (OV.move (v := .int .i64 x3) rfl) ?_
      refine GL.val trivial rfl (OV.ibin (v := .int .i64 (w .i64 (x3 + 1))) rfl rfl rfl) ?_
      refine GL.val trivial rfl (OV.assign (v := .int .i64 (w .i64 (x3 + 1))) rfl) ?_
      exact GL.jump (fun _ _ h => h) (w .i64 (x3 + 1)) h ⟨rfl, rfl, rfl, trivial⟩
  · replace h := And.right h hc6
    refine GC.exit_to (fun _ _ h => h) ?_
    refine GC.seq ?_
    refine GC.region ?_
    obtain ⟨x23, hl25, hr24, h⟩ := h
    refine GL.val trivial rfl (OV.loadT (p := (b1, 0)) (cs := x23) rfl rfl (by rw [hl25]; rfl) hr24) ?_
    obtain ⟨hl27, h128, h⟩ := h
    refine GL.storeT (p := (b1, 0)) (vs := x23) h trivial rfl rfl h128 (by rw [hl27]; rfl) ?_
    intro H26 h
    refine GL.val trivial rfl (OV.assign (v := .bool true) rfl) ?_
    refine GL.nil ?_
    obtain ⟨x29, hl31, hr30, h⟩ := h
    exact GC.ret (fun _ _ hf hs => post_res2 rfl (RV.cellT (p := (b1, 0)) (cs := x29) rfl rfl (by rw [hl31]; rfl) hr30) (RV.tmp rfl) hf hs ⟨x29, true, rfl, h⟩)

def sh_strings_trimLeftASCII (C : Ctx) (p_s : Str) (p_as : Option (Nat × Nat)) (K : Str → Heap → Prop) (H : Heap) : Prop :=
  jn (α := Str) (fun x2 H3 =>
 K x2 H3)
 (fun J1 => lp (α := Str) p_s H (fun x5 J6 H7 =>
 ift (decide (((List.length x5 : Int) : Int) > 0))
 (ixs x5 0 fun c9 =>
 c_strings_asciiSet_contains C p_as (c9.toNat : Int) (fun r12 H13 =>
 ift (!r12)
 (J1 x5 H13)
 (slS x5 1 (List.length x5 : Int) fun t15 =>
 J6 t15 H13)) H7)
 (J1 x5 H7)))

theorem ad_strings_trimLeftASCII (C : Ctx) (p_s : Str) (p_as : Option (Nat × Nat)) (K : Str → Heap → Prop) (H : Heap) (h : sh_strings_trimLeftASCII C p_s p_as K H) : c_strings_trimLeftASCII C p_s p_as K H := by
  refine Spec.enter Tryz.func92 rfl Tryz.ntmps92 rfl ?_
  refine GC.sub [(0, sv p_s), (1, pv p_as)] ⟨rfl, rfl, trivial⟩ ?_
  refine GC.seq ?_
  refine GC.region ?_
  refine GL.val trivial rfl (OV.assign (v := sv []) rfl) ?_
  refine GL.nil ?_
  obtain ⟨J1, h, hR4⟩ := h
  refine GC.join (α := Str) J1 (fun x2 => [(0, sv x2)]) ?_ ?_
  · skip
    refine GC.block ?_
    refine GC.loop (α := Str) h (fun x5 => [(0, sv x5), (1, pv p_as)]) ⟨rfl, rfl, trivial⟩ ?_
    intro x5 H7 J6 h
    refine GC.seq ?_
    refine GC.seq ?_
    refine GC.region ?_
    refine GL.val trivial rfl (OV.move (v := sv x5) rfl) ?_
    refine GL.val trivial rfl (OV.lenStr (s := x5) rfl rfl) ?_
    refine GL.val trivial rfl (OV.ibin (v := .bool (decide (((List.length x5 : Int) : Int) > 0))) rfl rfl rfl) ?_
    refine GL.nil ?_
    refine GC.cond (b := decide (((List.length x5 : Int) : Int) > 0)) rfl (fun hc8 => ?_) (fun hc8 => ?_)
    · replace h := And.left h hc8
      refine GC.skip ?_
      refine GC.block ?_
      refine GC.seq ?_
      refine GC.seq ?_
      refine GC.region ?_
      refine GL.val trivial rfl (OV.move (v := pv p_as) rfl) ?_
      refine GL.val trivial rfl (OV.move (v := sv x5) rfl) ?_
      obtain ⟨c9, ha10, hb11, h⟩ := h
      refine GL.val trivial rfl (OV.indexStr (s := x5) rfl rfl rfl ha10 hb11) ?_
      refine GL.call h trivial rfl ok_strings_asciiSet_contains (vs := [pv p_as, .int .u8 (c9.toNat : Int)]) rfl ?_
      rintro _ H13 ⟨r12, rfl, h⟩
      refine GL.val trivial rfl (OV.not rfl) ?_
      refine GL.nil ?_
      refine GC.cond (b := !r12) rfl (fun hc14 => ?_) (fun hc14 => ?_)
      · replace h := And.left h hc14
        exact GC.exit_jump (fun _ _ h => h) x5 h ⟨rfl, trivial⟩
      · replace h := And.right h hc14
        refine GC.skip ?_
        refine GC.region ?_
        refine GL.val trivial rfl (OV.move (v := sv x5) rfl) ?_
        obtain ⟨h16, h17, h18, t15, h19, h⟩ := h
        refine GL.val trivial rfl (OV.sliceStr (s := x5) h16 h17 h18 h19 rfl rfl rfl rfl rfl rfl) ?_
        refine GL.val trivial rfl (OV.assign (v := sv t15) rfl) ?_
        exact GL.jump (fun _ _ h => h) t15 h ⟨rfl, rfl, trivial⟩
    · replace h := And.right h hc8
      exact GC.exit_jump (fun _ _ h => h) x5 h ⟨rfl, trivial⟩
  · intro x2 H3 h
    replace h := hR4 x2 H3 h
    refine GC.seq ?_
    refine GC.region ?_
    refine GL.val trivial rfl (OV.move (v := sv x2) rfl) ?_
    refine GL.val trivial rfl (OV.assign (v := sv x2) rfl) ?_
    refine GL.nil ?_
    exact GC.ret (fun _ _ hf hs => post_tmp1 rfl rfl hf hs ⟨x2, rfl, h⟩)

def sh_strings_trimRightASCII (C : Ctx) (p_s : Str) (p_as : Option (Nat × Nat)) (K : Str → Heap → Prop) (H : Heap) : Prop :=
  jn (α := Str) (fun x2 H3 =>
 K x2 H3)
 (fun J1 => lp (α := Str) p_s H (fun x5 J6 H7 =>
 ift (decide (((List.length x5 : Int) : Int) > 0))
 (ixs x5 (w .i64 ((List.length x5 : Int) - 1)) fun c9 =>
 c_strings_asciiSet_contains C p_as (c9.toNat : Int) (fun r12 H13 =>
 ift (!r12)
 (J1 x5 H13)
 (slS x5 0 (w .i64 ((List.length x5 : Int) - 1)) fun t15 =>
 J6 t15 H13)) H7)
 (J1 x5 H7)))

theorem ad_strings_trimRightASCII (C : Ctx) (p_s : Str) (p_as : Option (Nat × Nat)) (K : Str → Heap → Prop) (H : Heap) (h : sh_strings_trimRightASCII C p_s p_as K H) : c_strings_trimRightASCII C p_s p_as K H := by
  refine Spec.enter Tryz.func93 rfl Tryz.ntmps93 rfl ?_
  refine GC.sub [(0, sv p_s), (1, pv p_as)] ⟨rfl, rfl, trivial⟩ ?_
  refine GC.seq ?_
  refine GC.region ?_
  refine GL.val trivial rfl (OV.assign (v := sv []) rfl) ?_
  refine GL.nil ?_
  obtain ⟨J1, h, hR4⟩ := h
  refine GC.join (α := Str) J1 (fun x2 => [(0, sv x2)]) ?_ ?_
  · skip
    refine GC.block ?_
    refine GC.loop (α := Str) h (fun x5 => [(0, sv x5), (1, pv p_as)]) ⟨rfl, rfl, trivial⟩ ?_
    intro x5 H7 J6 h
    refine GC.seq ?_
    refine GC.seq ?_
    refine GC.region ?_
    refine GL.val trivial rfl (OV.move (v := sv x5) rfl) ?_
    refine GL.val trivial rfl (OV.lenStr (s := x5) rfl rfl) ?_
    refine GL.val trivial rfl (OV.ibin (v := .bool (decide (((List.length x5 : Int) : Int) > 0))) rfl rfl rfl) ?_
    refine GL.nil ?_
    refine GC.cond (b := decide (((List.length x5 : Int) : Int) > 0)) rfl (fun hc8 => ?_) (fun hc8 => ?_)
    · replace h := And.left h hc8
      refine GC.skip ?_
      refine GC.block ?_
      refine GC.seq ?_
      refine GC.seq ?_
      refine GC.region ?_
      refine GL.val trivial rfl (OV.move (v := pv p_as) rfl) ?_
      refine GL.val trivial rfl (OV.move (v := sv x5) rfl) ?_
      refine GL.val trivial rfl (OV.move (v := sv x5) rfl) ?_
      refine GL.val trivial rfl (OV.lenStr (s := x5) rfl rfl) ?_
      refine GL.val trivial rfl (OV.ibin (v := .int .i64 (w .i64 ((List.length x5 : Int) - 1))) rfl rfl rfl) ?_
      obtain ⟨c9, ha10, hb11, h⟩ := h
      refine GL.val trivial rfl (OV.indexStr (s := x5) rfl rfl rfl ha10 hb11) ?_
      refine GL.call h trivial rfl ok_strings_asciiSet_contains (vs := [pv p_as, .int .u8 (c9.toNat : Int)]) rfl ?_
      rintro _ H13 ⟨r12, rfl, h⟩
      refine GL.val trivial rfl (OV.not rfl) ?_
      refine GL.nil ?_
      refine GC.cond (b := !r12) rfl (fun hc14 => ?_) (fun hc14 => ?_)
      · replace h := And.left h hc14
        exact GC.exit_jump (fun _ _ h => h) x5 h ⟨rfl, trivial⟩
      · replace h := And.right h hc14
        refine GC.skip ?_
        refine GC.region ?_
        refine GL.val trivial rfl (OV.move (v := sv x5) rfl) ?_
        refine GL.val trivial rfl (OV.move (v := sv x5) rfl) ?_
        refine GL.val trivial rfl (OV.lenStr (s := x5) rfl rfl) ?_
        refine GL.val trivial rfl (OV.ibin (v := .int .i64 (w .i64 ((List.length x5 : Int) - 1))) rfl rfl rfl) ?_
        obtain ⟨h16, h17, h18, t15, h19, h⟩ := h
        refine GL.val trivial rfl (OV.sliceStr (s := x5) h16 h17 h18 h19 rfl rfl rfl rfl rfl rfl) ?_
        refine GL.val trivial rfl (OV.assign (v := sv t15) rfl) ?_
        exact GL.jump (fun _ _ h => h) t15 h ⟨rfl, rfl, trivial⟩
    · replace h := And.right h hc8
      exact GC.exit_jump (fun _ _ h => h) x5 h ⟨rfl, trivial⟩
  · intro x2 H3 h
    replace h := hR4 x2 H3 h
    refine GC.seq ?_
    refine GC.region ?_
    refine GL.val trivial rfl (OV.move (v := sv x2) rfl) ?_
    refine GL.val trivial rfl (OV.assign (v := sv x2) rfl) ?_
    refine GL.nil ?_
    exact GC.ret (fun _ _ hf hs => post_tmp1 rfl rfl hf hs ⟨x2, rfl, h⟩)

def sh_internal_stringslite_Index (C : Ctx) (p_s : Str) (p_substr : Str) (K : Int → Heap → Prop) (H : Heap) : Prop :=
  ift ((((List.length p_substr : Int) : Int) == 0) || (p_substr == p_s))
 (K 0 H)
 (ift (((List.length p_substr : Int) : Int) == 1)
 (ixs p_substr 0 fun c4 =>
 c_internal_stringslite_IndexByte C p_s (c4.toNat : Int) (fun r7 H8 =>
 K r7 H8) H)
 (ift (decide (((List.length p_substr : Int) : Int) ≥ (List.length p_s : Int)))
 (K (-1) H)
 (ldI H .i64 (1, 0) fun x10 =>
 ift ((decide (((List.length p_substr : Int) : Int) ≤ x10)) && (decide (((List.length p_s : Int) : Int) ≤ 64)))
 (False)
 (ixs p_substr 0 fun c14 =>
 ixs p_substr 1 fun c17 =>
 lp (α := Int × Int) (0, 0) H (fun x20 J21 H22 =>
 ift (decide ((x20.1 : Int) < (w .i64 ((w .i64 ((List.length p_s : Int) - (List.length p_substr : Int))) + 1))))
 (jn (α := Int) (fun x25 H26 =>
 ixs p_s (w .i64 (x25 + 1)) fun c41 =>
 jn (α := Bool) (fun b44 H54 =>
 ift b44
 (K x25 H54)
 (ldI H54 .i64 (1, 0) fun x56 =>
 jn (α := Bool) (fun b58 H64 =>
 ift b58
 (False)
 (ldI H64 .i64 (1, 0) fun x72 =>
 ift (((decide (((List.length p_substr : Int) : Int) > x72)) && (decide (((w .i64 (x20.2 + 1)) : Int) ≥ (w .i64 (4 + (sShr .i64 (w .i64 (x25 + 1)) 4)))))) && (decide (((w .i64 (x25 + 1)) : Int) < (w .i64 ((w .i64 ((List.length p_s : Int) - (List.length p_substr : Int))) + 1)))))
 (slS p_s (w .i64 (x25 + 1)) (List.length p_s : Int) fun t77 =>
 c_internal_bytealg_IndexRabinKarp_string C t77 p_substr (fun r83 H84 =>
 ift (decide ((r83 : Int) < 0))
 (K (-1) H84)
 (K (w .i64 ((w .i64 (x25 + 1)) + r83)) H84)) H64)
 (J21 ((w .i64 (x25 + 1)), (w .i64 (x20.2 + 1))) H64)))
 (fun J59 => ift (decide (((List.length p_substr : Int) : Int) ≤ x56))
 (c_internal_bytealg_Cutover C (w .i64 (x25 + 1)) (fun r62 H63 =>
 J59 (decide (((w .i64 (x20.2 + 1)) : Int) > r62)) H63) H54)
 (J59 false H54))))
 (fun J45 => ift (((c41.toNat : Int) : Int) == (c17.toNat : Int))
 (slS p_s x25 (w .i64 (x25 + (List.length p_substr : Int))) fun t48 =>
 J45 (t48 == p_substr) H26)
 (J45 false H26)))
 (fun J24 => ixs p_s x20.1 fun c28 =>
 ift (((c28.toNat : Int) : Int) != (c14.toNat : Int))
 (slS p_s (w .i64 (x20.1 + 1)) (w .i64 ((w .i64 ((List.length p_s : Int) - (List.length p_substr : Int))) + 1)) fun t32 =>
 c_internal_stringslite_IndexByte C t32 (c14.toNat : Int) (fun r38 H39 =>
 ift (decide ((r38 : Int) < 0))
 (K (-1) H39)
 (J24 (w .i64 (x20.1 + (w .i64 (r38 + 1)))) H39)) H22)
 (J24 x20.1 H22)))
 (K (-1) H22))))))

theorem ad_internal_stringslite_Index (C : Ctx) (p_s : Str) (p_substr : Str) (K : Int → Heap → Prop) (H : Heap) (h : sh_internal_stringslite_Index C p_s p_substr K H) : c_internal_stringslite_Index C p_s p_substr K H := by
  refine Spec.enter Tryz.func96 rfl Tryz.ntmps96 rfl ?_
  refine GC.sub [(0, sv p_s), (1, sv p_substr)] ⟨rfl, rfl, trivial⟩ ?_
  refine GC.seq ?_
  refine GC.region ?_
  refine GL.val trivial rfl (OV.assign (v := .int .i64 0) rfl) ?_
  refine GL.nil ?_
  refine GC.seq ?_
  refine GC.region ?_
  refine GL.val trivial rfl (OV.move (v := sv p_substr) rfl) ?_
  refine GL.val trivial rfl (OV.lenStr (s := p_substr) rfl rfl) ?_
  refine GL.val trivial rfl (OV.assign (v := .int .i64 (List.length p_substr : Int)) rfl) ?_
  refine GL.nil ?_
  refine GC.seq ?_
  refine GC.block ?_
  refine GC.seq ?_
  refine GC.region ?_
  refine GL.val trivial rfl (OV.move (v := .int .i64 (List.length p_substr : Int)) rfl) ?_
  refine GL.val trivial rfl (OV.ibin (v := .bool (((List.length p_substr : Int) : Int) == 0)) rfl rfl rfl) ?_
  refine GL.val trivial rfl (OV.move (v := .bool (((List.length p_substr : Int) : Int) == 0)) rfl) ?_
  refine GL.cut0 4 [(23, .bool ((((List.length p_substr : Int) : Int) == 0) || (p_substr == p_s))), (0, sv p_s), (1, sv p_substr), (5, .int .i64 (List.length p_substr : Int))] ?_ ?_
  · rcases Bool.eq_false_or_eq_true (((List.length p_substr : Int) : Int) == 0) with hc1 | hc1
    · skip
      refine GL.skip ⟨_, rfl, .inl ⟨_, rfl, hc1⟩⟩ rfl ?_
      refine GL.skip ⟨_, rfl, .inl ⟨_, rfl, hc1⟩⟩ rfl ?_
      refine GL.skip ⟨_, rfl, .inl ⟨_, rfl, hc1⟩⟩ rfl ?_
      refine GL.val trivial rfl (OV.pickT (b := ((List.length p_substr : Int) : Int) == 0) (v := .bool true) rfl hc1 rfl) ?_
      exact GL.jump0 (fun _ _ h => h) () rfl ⟨(by rw [hc1]; rfl), rfl, rfl, rfl, trivial⟩
    · skip
      refine GL.val ⟨_, _, rfl, rfl, hc1⟩ rfl (OV.move (v := sv p_substr) rfl) ?_
      refine GL.val ⟨_, _, rfl, rfl, hc1⟩ rfl (OV.move (v := sv p_s) rfl) ?_
      refine GL.val ⟨_, _, rfl, rfl, hc1⟩ rfl (OV.sbin (a := p_substr) (b := p_s) (v := .bool (p_substr == p_s)) rfl rfl rfl) ?_
      refine GL.val trivial rfl (OV.pickF (b := ((List.length p_substr : Int) : Int) == 0) (v := .bool (p_substr == p_s)) rfl hc1 rfl) ?_
      exact GL.jump0 (fun _ _ h => h) () rfl ⟨(by rw [hc1]; rfl), rfl, rfl, rfl, trivial⟩
  refine GL.val trivial rfl (OV.assign (v := .bool ((((List.length p_substr : Int) : Int) == 0) || (p_substr == p_s))) rfl) ?_
  refine GL.nil ?_
  refine GC.cond (b := (((List.length p_substr : Int) : Int) == 0) || (p_substr == p_s)) rfl (fun hc2 => ?_) (fun hc2 => ?_)
  · replace h := And.left h hc2
    refine GC.seq ?_
    refine GC.region ?_
    refine GL.val trivial rfl (OV.assign (v := .int .i64 0) rfl) ?_
    refine GL.nil ?_
    exact GC.ret (fun _ _ hf hs => post_tmp1 rfl rfl hf hs ⟨0, rfl, h⟩)
  · replace h := And.right h hc2
    refine GC.seq ?_
    refine GC.region ?_
    refine GL.val trivial rfl (OV.move (v := .int .i64 (List.length p_substr : Int)) rfl) ?_
    refine GL.val trivial rfl (OV.ibin (v := .bool (((List.length p_substr : Int) : Int) == 1)) rfl rfl rfl) ?_
    refine GL.val trivial rfl (OV.assign (v := .bool (((List.length p_substr : Int) : Int) == 1)) rfl) ?_
    refine GL.nil ?_
    refine GC.cond (b := ((List.length p_substr : Int) : Int) == 1) rfl (fun hc3 => ?_) (fun hc3 => ?_)
    · replace h := And.left h hc3
      refine GC.seq ?_
      refine GC.region ?_
      refine GL.val trivial rfl (OV.move (v := sv p_s) rfl) ?_
      refine GL.val trivial rfl (OV.move (v := sv p_substr) rfl) ?_
      obtain ⟨c4, ha5, hb6, h⟩ := h
      refine GL.val trivial rfl (OV.indexStr (s := p_substr) rfl rfl rfl ha5 hb6) ?_
      refine GL.call h trivial rfl ok_internal_stringslite_IndexByte (vs := [sv p_s, .int .u8 (c4.toNat : Int)]) rfl ?_
      rintro _ H8 ⟨r7, rfl, h⟩
      refine GL.val trivial rfl (OV.assign (v := .int .i64 r7) rfl) ?_
      refine GL.nil ?_
      exact GC.ret (fun _ _ hf hs => post_tmp1 rfl rfl hf hs ⟨r7, rfl, h⟩)
    · replace h := And.right h hc3
      refine GC.seq ?_
      refine GC.region ?_
      refine GL.val trivial rfl (OV.move (v := .int .i64 (List.length p_substr : Int)) rfl) ?_
      refine GL.val trivial rfl (OV.move (v := sv p_s) rfl) ?_
      refine GL.val trivial rfl (OV.lenStr (s := p_s) rfl rfl) ?_
      refine GL.val trivial rfl (OV.ibin (v := .bool (decide (((List.length p_substr : Int) : Int) ≥ (List.length p_s : Int)))) rfl rfl rfl) ?_
      refine GL.val trivial rfl (OV.assign (v := .bool (decide (((List.length p_substr : Int) : Int) ≥ (List.length p_s : Int)))) rfl) ?_
      refine GL.nil ?_
      refine GC.cond (b := decide (((List.length p_substr : Int) : Int) ≥ (List.length p_s : Int))) rfl (fun hc9 => ?_) (fun hc9 => ?_)
      · replace h := And.left h hc9
        refine GC.seq ?_
        refine GC.region ?_
        refine GL.val trivial rfl (OV.assign (v := .int .i64 (-1)) rfl) ?_
        refine GL.nil ?_
        exact GC.ret (fun _ _ hf hs => post_tmp1 rfl rfl hf hs ⟨(-1), rfl, h⟩)
      · replace h := And.right h hc9
        refine GC.seq ?_
        refine GC.region ?_
        refine GL.val trivial rfl (OV.move (v := .int .i64 (List.length p_substr : Int)) rfl) ?_
        obtain ⟨x10, hr11, h⟩ := h
        refine GL.val trivial rfl (OV.load (p := (1, 0)) rfl rfl hr11) ?_
        refine GL.val trivial rfl (OV.ibin (v := .bool (decide (((List.length p_substr : Int) : Int) ≤ x10))) rfl rfl rfl) ?_
        refine GL.val trivial rfl (OV.move (v := .bool (decide (((List.length p_substr : Int) : Int) ≤ x10))) rfl) ?_
        refine GL.cut0 4 [(44, .bool ((decide (((List.length p_substr : Int) : Int) ≤ x10)) && (decide (((List.length p_s : Int) : Int) ≤ 64)))), (0, sv p_s), (1, sv p_substr), (5, .int .i64 (List.length p_substr : Int))] ?_ ?_
        · rcases Bool.eq_false_or_eq_true (decide (((List.length p_substr : Int) : Int) ≤ x10)) with hc12 | hc12
          · skip
            refine GL.val ⟨_, _, rfl, rfl, hc12⟩ rfl (OV.move (v := sv p_s) rfl) ?_
            refine GL.val ⟨_, _, rfl, rfl, hc12⟩ rfl (OV.lenStr (s := p_s) rfl rfl) ?_
            refine GL.val ⟨_, _, rfl, rfl, hc12⟩ rfl (OV.ibin (v := .bool (decide (((List.length p_s : Int) : Int) ≤ 64))) rfl rfl rfl) ?_
            refine GL.val trivial rfl (OV.pickT (b := decide (((List.length p_substr : Int) : Int) ≤ x10)) (v := .bool (decide (((List.length p_s : Int) : Int) ≤ 64))) rfl hc12 rfl) ?_
            exact GL.jump0 (fun _ _ h => h) () rfl ⟨(by rw [hc12]; rfl), rfl, rfl, rfl, trivial⟩
          · skip
            refine GL.skip ⟨_, rfl, .inl ⟨_, rfl, hc12⟩⟩ rfl ?_
            refine GL.skip ⟨_, rfl, .inl ⟨_, rfl, hc12⟩⟩ rfl ?_
            refine GL.skip ⟨_, rfl, .inl ⟨_, rfl, hc12⟩⟩ rfl ?_
            refine GL.val trivial rfl (OV.pickF (b := decide (((List.length p_substr : Int) : Int) ≤ x10)) (v := .bool false) rfl hc12 rfl) ?_
            exact GL.jump0 (fun _ _ h => h) () rfl ⟨(by rw [hc12]; rfl), rfl, rfl, rfl, trivial⟩
        refine GL.val trivial rfl (OV.assign (v := .bool ((decide (((List.length p_substr : Int) : Int) ≤ x10)) && (decide (((List.length p_s : Int) : Int) ≤ 64)))) rfl) ?_
        refine GL.nil ?_
        refine GC.cond (b := (decide (((List.length p_substr : Int) : Int) ≤ x10)) && (decide (((List.length p_s : Int) : Int) ≤ 64))) rfl (fun hc13 => ?_) (fun hc13 => ?_)
        · replace h := And.left h hc13
          refine GC.seq ?_
          exact GC.never h
        · replace h := And.right h hc13
          refine GC.skip_to (fun _ _ h => h) ?_
          refine GC.seq ?_
          refine GC.region ?_
          refine GL.val trivial rfl (OV.move (v := sv p_substr) rfl) ?_
          obtain ⟨c14, ha15, hb16, h⟩ := h
          refine GL.val trivial rfl (OV.indexStr (s := p_substr) rfl rfl rfl ha15 hb16) ?_
          refine GL.val trivial rfl (OV.assign (v := .int .u8 (c14.toNat : Int)) rfl) ?_
          refine GL.nil ?_
          refine GC.seq ?_
          refine GC.region ?_
          refine GL.val trivial rfl (OV.move (v := sv p_substr) rfl) ?_
          obtain ⟨c17, ha18, hb19, h⟩ := h
          refine GL.val trivial rfl (OV.indexStr (s := p_substr) rfl rfl rfl ha18 hb19) ?_
          refine GL.val trivial rfl (OV.assign (v := .int .u8 (c17.toNat : Int)) rfl) ?_
          refine GL.nil ?_
          refine GC.seq ?_
          refine GC.region ?_
          refine GL.val trivial rfl (OV.assign (v := .int .i64 0) rfl) ?_
          refine GL.nil ?_
          refine GC.seq ?_
          refine GC.region ?_
          refine GL.val trivial rfl (OV.move (v := sv p_s) rfl) ?_
          refine GL.val trivial rfl (OV.lenStr (s := p_s) rfl rfl) ?_
          refine GL.val trivial rfl (OV.move (v := .int .i64 (List.length p_substr : Int)) rfl) ?_
          refine GL.val trivial rfl (OV.ibin (v := .int .i64 (w .i64 ((List.length p_s : Int) - (List.length p_substr : Int)))) rfl rfl rfl) ?_
          refine GL.val trivial rfl (OV.ibin (v := .int .i64 (w .i64 ((w .i64 ((List.length p_s : Int) - (List.length p_substr : Int))) + 1))) rfl rfl rfl) ?_
          refine GL.val trivial rfl (OV.assign (v := .int .i64 (w .i64 ((w .i64 ((List.length p_s : Int) - (List.length p_substr : Int))) + 1))) rfl) ?_
          refine GL.nil ?_
          refine GC.seq ?_
          refine GC.region ?_
          refine GL.val trivial rfl (OV.assign (v := .int .i64 0) rfl) ?_
          refine GL.nil ?_
          refine GC.seq ?_
          refine GC.block ?_
          refine GC.loop (α := Int × Int) h (fun x20 => [(8, .int .i64 x20.1), (10, .int .i64 x20.2), (0, sv p_s), (1, sv p_substr), (5, .int .i64 (List.length p_substr : Int)), (6, .int .u8 (c14.toNat : Int)), (7, .int .u8 (c17.toNat : Int)), (9, .int .i64 (w .i64 ((w .i64 ((List.length p_s : Int) - (List.length p_substr : Int))) + 1)))]) ⟨rfl, rfl, rfl, rfl, rfl, rfl, rfl, rfl, trivial⟩ ?_
          intro x20 H22 J21 h
          refine GC.seq ?_
          refine GC.seq ?_
          refine GC.region ?_
          refine GL.val trivial rfl (OV.move (v := .int .i64 x20.1) rfl) ?_
          refine GL.val trivial rfl (OV.move (v := .int .i64 (w .i64 ((w .i64 ((List.length p_s : Int) - (List.length p_substr : Int))) + 1))) rfl) ?_
          refine GL.val trivial rfl (OV.ibin (v := .bool (decide ((x20.1 : Int) < (w .i64 ((w .i64 ((List.length p_s : Int) - (List.length p_substr : Int))) + 1))))) rfl rfl rfl) ?_
          refine GL.nil ?_
          refine GC.cond (b := decide ((x20.1 : Int) < (w .i64 ((w .i64 ((List.length p_s : Int) - (List.length p_substr : Int))) + 1)))) rfl (fun hc23 => ?_) (fun hc23 => ?_)
          · replace h := And.left h hc23
            refine GC.skip ?_
            refine GC.block ?_
            obtain ⟨J24, h, hR27⟩ := h
            refine GC.join (α := Int) J24 (fun x25 => [(8, .int .i64 x25), (0, sv p_s), (1, sv p_substr), (5, .int .i64 (List.length p_substr : Int)), (6, .int .u8 (c14.toNat : Int)), (7, .int .u8 (c17.toNat : Int)), (9, .int .i64 (w .i64 ((w .i64 ((List.length p_s : Int) - (List.length p_substr : Int))) + 1))), (10, .int .i64 x20.2)]) ?_ ?_
            · skip
              refine GC.seq ?_
              refine GC.region ?_
              refine GL.val trivial rfl (OV.move (v := sv p_s) rfl) ?_
              refine GL.val trivial rfl (OV.move (v := .int .i64 x20.1) rfl) ?_
              obtain ⟨c28, ha29, hb30, h⟩ := h
              refine GL.val trivial rfl (OV.indexStr (s := p_s) rfl rfl rfl ha29 hb30) ?_
              refine GL.val trivial rfl (OV.move (v := .int .u8 (c14.toNat : Int)) rfl) ?_
              refine GL.val trivial rfl (OV.ibin (v := .bool (((c28.toNat : Int) : Int) != (c14.toNat : Int))) rfl rfl rfl) ?_
              refine GL.nil ?_
              refine GC.cond (b := ((c28.toNat : Int) : Int) != (c14.toNat : Int)) rfl (fun hc31 => ?_) (fun hc31 => ?_)
              · replace h := And.left h hc31
                refine GC.seq ?_
                refine GC.region ?_
                refine GL.val trivial rfl (OV.move (v := sv p_s) rfl) ?_
                refine GL.val trivial rfl (OV.move (v := .int .i64 x20.1) rfl) ?_
                refine GL.val trivial rfl (OV.ibin (v := .int .i64 (w .i64 (x20.1 + 1))) rfl rfl rfl) ?_
                refine GL.val trivial rfl (OV.move (v := .int .i64 (w .i64 ((w .i64 ((List.length p_s : Int) - (List.length p_substr : Int))) + 1))) rfl) ?_
                obtain ⟨h33, h34, h35, t32, h36, h⟩ := h
                refine GL.val trivial rfl (OV.sliceStr (s := p_s) h33 h34 h35 h36 rfl rfl rfl rfl rfl rfl) ?_
                refine GL.val trivial rfl (OV.move (v := .int .u8 (c14.toNat : Int)) rfl) ?_
                refine GL.call h trivial rfl ok_internal_stringslite_IndexByte (vs := [sv t32, .int .u8 (c14.toNat : Int)]) rfl ?_
                rintro _ H39 ⟨r38, rfl, h⟩
                refine GL.val trivial rfl (OV.assign (v := .int .i64 r38) rfl) ?_
                refine GL.nil ?_
                refine GC.seq ?_
                refine GC.seq ?_
                refine GC.region ?_
                refine GL.val trivial rfl (OV.move (v := .int .i64 r38) rfl) ?_
                refine GL.val trivial rfl (OV.ibin (v := .bool (decide ((r38 : Int) < 0))) rfl rfl rfl) ?_
                refine GL.nil ?_
                refine GC.cond (b := decide ((r38 : Int) < 0)) rfl (fun hc40 => ?_) (fun hc40 => ?_)
                · replace h := And.left h hc40
                  refine GC.seq ?_
                  refine GC.region ?_
                  refine GL.val trivial rfl (OV.assign (v := .int .i64 (-1)) rfl) ?_
                  refine GL.nil ?_
                  exact GC.ret (fun _ _ hf hs => post_tmp1 rfl rfl hf hs ⟨(-1), rfl, h⟩)
                · replace h := And.right h hc40
                  refine GC.skip ?_
                  refine GC.region ?_
                  refine GL.val trivial rfl (OV.move (v := .int .i64 x20.1) rfl) ?_
                  refine GL.val trivial rfl (OV.move (v := .int .i64 r38) rfl) ?_
                  refine GL.val trivial rfl (OV.ibin (v := .int .i64 (w .i64 (r38 + 1))) rfl rfl rfl) ?_
                  refine GL.val trivial rfl (OV.ibin (v := .int .i64 (w .i64 (x20.1 + (w .i64 (r38 + 1))))) rfl rfl rfl) ?_
                  refine GL.val trivial rfl (OV.assign (v := .int .i64 (w .i64 (x20.1 + (w .i64 (r38 + 1))))) rfl) ?_
                  exact GL.jump (fun _ _ h => h) (w .i64 (x20.1 + (w .i64 (r38 + 1)))) h ⟨rfl, rfl, rfl, rfl, rfl, rfl, rfl, rfl, trivial⟩
              · replace h := And.right h hc31
                exact GC.jump (fun _ _ h => h) x20.1 h ⟨rfl, rfl, rfl, rfl, rfl, rfl, rfl, rfl, trivial⟩
            · intro x25 H26 h
              replace h := hR27 x25 H26 h
              refine GC.seq ?_
              refine GC.seq ?_
              refine GC.region ?_
              refine GL.val trivial rfl (OV.move (v := sv p_s) rfl) ?_
              refine GL.val trivial rfl (OV.move (v := .int .i64 x25) rfl) ?_
              refine GL.val trivial rfl (OV.ibin (v := .int .i64 (w .i64 (x25 + 1))) rfl rfl rfl) ?_
              obtain ⟨c41, ha42, hb43, h⟩ := h
              refine GL.val trivial rfl (OV.indexStr (s := p_s) rfl rfl rfl ha42 hb43) ?_
              refine GL.val trivial rfl (OV.move (v := .int .u8 (c17.toNat : Int)) rfl) ?_
              refine GL.val trivial rfl (OV.ibin (v := .bool (((c41.toNat : Int) : Int) == (c17.toNat : Int))) rfl rfl rfl) ?_
              refine GL.val trivial rfl (OV.move (v := .bool (((c41.toNat : Int) : Int) == (c17.toNat : Int))) rfl) ?_
              obtain ⟨J45, h, hR46⟩ := h
              refine GL.cut (α := Bool) 9 J45 (fun b44 => [(93, .bool b44), (0, sv p_s), (1, sv p_substr), (5, .int .i64 (List.length p_substr : Int)), (6, .int .u8 (c14.toNat : Int)), (7, .int .u8 (c17.toNat : Int)), (8, .int .i64 x25), (9, .int .i64 (w .i64 ((w .i64 ((List.length p_s : Int) - (List.length p_substr : Int))) + 1))), (10, .int .i64 x20.2)]) ?_ ?_
              · rcases Bool.eq_false_or_eq_true (((c41.toNat : Int) : Int) == (c17.toNat : Int)) with hc47 | hc47
                · skip
                  replace h := And.left h hc47
                  refine GL.val ⟨_, _, rfl, rfl, hc47⟩ rfl (OV.move (v := sv p_s) rfl) ?_
                  refine GL.val ⟨_, _, rfl, rfl, hc47⟩ rfl (OV.move (v := .int .i64 x25) rfl) ?_
                  refine GL.val ⟨_, _, rfl, rfl, hc47⟩ rfl (OV.move (v := .int .i64 x25) rfl) ?_
                  refine GL.val ⟨_, _, rfl, rfl, hc47⟩ rfl (OV.move (v := .int .i64 (List.length p_substr : Int)) rfl) ?_
                  refine GL.val ⟨_, _, rfl, rfl, hc47⟩ rfl (OV.ibin (v := .int .i64 (w .i64 (x25 + (List.length p_substr : Int)))) rfl rfl rfl) ?_
                  obtain ⟨h49, h50, h51, t48, h52, h⟩ := h
                  refine GL.val ⟨_, _, rfl, rfl, hc47⟩ rfl (OV.sliceStr (s := p_s) h49 h50 h51 h52 rfl rfl rfl rfl rfl rfl) ?_
                  refine GL.val ⟨_, _, rfl, rfl, hc47⟩ rfl (OV.move (v := sv p_substr) rfl) ?_
                  refine GL.val ⟨_, _, rfl, rfl, hc47⟩ rfl (OV.sbin (a := t48) (b := p_substr) (v := .bool (t48 == p_substr)) rfl rfl rfl) ?_
                  refine GL.val trivial rfl (OV.pickT (b := ((c41.toNat : Int) : Int) == (c17.toNat : Int)) (v := .bool (t48 == p_substr)) rfl hc47 rfl) ?_
                  exact GL.jump (fun _ _ h => h) (t48 == p_substr) h ⟨rfl, rfl, rfl, rfl, rfl, rfl, rfl, rfl, rfl, trivial⟩
                · skip
                  replace h := And.right h hc47
                  refine GL.skip ⟨_, rfl, .inl ⟨_, rfl, hc47⟩⟩ rfl ?_
                  refine GL.skip ⟨_, rfl, .inl ⟨_, rfl, hc47⟩⟩ rfl ?_
                  refine GL.skip ⟨_, rfl, .inl ⟨_, rfl, hc47⟩⟩ rfl ?_
                  refine GL.skip ⟨_, rfl, .inl ⟨_, rfl, hc47⟩⟩ rfl ?_
                  refine GL.skip ⟨_, rfl, .inl ⟨_, rfl, hc47⟩⟩ rfl ?_
                  refine GL.skip ⟨_, rfl, .inl ⟨_, rfl, hc47⟩⟩ rfl ?_
                  refine GL.skip ⟨_, rfl, .inl ⟨_, rfl, hc47⟩⟩ rfl ?_
                  refine GL.skip ⟨_, rfl, .inl ⟨_, rfl, hc47⟩⟩ rfl ?_
                  refine GL.val trivial rfl (OV.pickF (b := ((c41.toNat : Int) : Int) == (c17.toNat : Int)) (v := .bool false) rfl hc47 rfl) ?_
                  exact GL.jump (fun _ _ h => h) false h ⟨rfl, rfl, rfl, rfl, rfl, rfl, rfl, rfl, rfl, trivial⟩
              intro b44 H54 h
              replace h := hR46 b44 H54 h
              refine GL.nil ?_
              refine GC.cond (b := b44) rfl (fun hc55 => ?_) (fun hc55 => ?_)
              · replace h := And.left h hc55
                refine GC.seq ?_
                refine GC.region ?_
                refine GL.val trivial rfl (OV.move (v := .int .i64 x25) rfl) ?_
                refine GL.val trivial rfl (OV.assign (v := .int .i64 x25) rfl) ?_
                refine GL.nil ?_
                exact GC.ret (fun _ _ hf hs => post_tmp1 rfl rfl hf hs ⟨x25, rfl, h⟩)
              · replace h := And.right h hc55
                refine GC.skip ?_
                refine GC.seq ?_
                refine GC.region ?_
                refine GL.val trivial rfl (OV.move (v := .int .i64 x25) rfl) ?_
                refine GL.val trivial rfl (OV.ibin (v := .int .i64 (w .i64 (x25 + 1))) rfl rfl rfl) ?_
                refine GL.val trivial rfl (OV.assign (v := .int .i64 (w .i64 (x25 + 1))) rfl) ?_
                refine GL.nil ?_
                refine GC.seq ?_
                refine GC.region ?_
                refine GL.val trivial rfl (OV.move (v := .int .i64 x20.2) rfl) ?_
                refine GL.val trivial rfl (OV.ibin (v := .int .i64 (w .i64 (x20.2 + 1))) rfl rfl rfl) ?_
                refine GL.val trivial rfl (OV.assign (v := .int .i64 (w .i64 (x20.2 + 1))) rfl) ?_
                refine GL.nil ?_
                refine GC.seq ?_
                refine GC.region ?_
                refine GL.val trivial rfl (OV.move (v := .int .i64 (List.length p_substr : Int)) rfl) ?_
                obtain ⟨x56, hr57, h⟩ := h
                refine GL.val trivial rfl (OV.load (p := (1, 0)) rfl rfl hr57) ?_
                refine GL.val trivial rfl (OV.ibin (v := .bool (decide (((List.length p_substr : Int) : Int) ≤ x56))) rfl rfl rfl) ?_
                refine GL.val trivial rfl (OV.move (v := .bool (decide (((List.length p_substr : Int) : Int) ≤ x56))) rfl) ?_
                obtain ⟨J59, h, hR60⟩ := h
                refine GL.cut (α := Bool) 5 J59 (fun b58 => [(107, .bool b58), (0, sv p_s), (1, sv p_substr), (5, .int .i64 (List.length p_substr : Int)), (6, .int .u8 (c14.toNat : Int)), (7, .int .u8 (c17.toNat : Int)), (8, .int .i64 (w .i64 (x25 + 1))), (9, .int .i64 (w .i64 ((w .i64 ((List.length p_s : Int) - (List.length p_substr : Int))) + 1))), (10, .int .i64 (w .i64 (x20.2 + 1)))]) ?_ ?_
                · rcases Bool.eq_false_or_eq_true (decide (((List.length p_substr : Int) : Int) ≤ x56)) with hc61 | hc61
                  · skip
                    replace h := And.left h hc61
                    refine GL.val ⟨_, _, rfl, rfl, hc61⟩ rfl (OV.move (v := .int .i64 (w .i64 (x20.2 + 1))) rfl) ?_
                    refine GL.val ⟨_, _, rfl, rfl, hc61⟩ rfl (OV.move (v := .int .i64 (w .i64 (x25 + 1))) rfl) ?_
                    refine GL.call h ⟨_, _, rfl, rfl, hc61⟩ rfl ok_internal_bytealg_Cutover (vs := [.int .i64 (w .i64 (x25 + 1))]) rfl ?_
                    rintro _ H63 ⟨r62, rfl, h⟩
                    refine GL.val ⟨_, _, rfl, rfl, hc61⟩ rfl (OV.ibin (v := .bool (decide (((w .i64 (x20.2 + 1)) : Int) > r62))) rfl rfl rfl) ?_
                    refine GL.val trivial rfl (OV.pickT (b := decide (((List.length p_substr : Int) : Int) ≤ x56)) (v := .bool (decide (((w .i64 (x20.2 + 1)) : Int) > r62))) rfl hc61 rfl) ?_
                    exact GL.jump (fun _ _ h => h) (decide (((w .i64 (x20.2 + 1)) : Int) > r62)) h ⟨rfl, rfl, rfl, rfl, rfl, rfl, rfl, rfl, rfl, trivial⟩
                  · skip
                    replace h := And.right h hc61
                    refine GL.skip ⟨_, rfl, .inl ⟨_, rfl, hc61⟩⟩ rfl ?_
                    refine GL.skip ⟨_, rfl, .inl ⟨_, rfl, hc61⟩⟩ rfl ?_
                    refine GL.skip ⟨_, rfl, .inl ⟨_, rfl, hc61⟩⟩ rfl ?_
                    refine GL.skip ⟨_, rfl, .inl ⟨_, rfl, hc61⟩⟩ rfl ?_
                    refine GL.val trivial rfl (OV.pickF (b := decide (((List.length p_substr : Int) : Int) ≤ x56)) (v := .bool false) rfl hc61 rfl) ?_
                    exact GL.jump (fun _ _ h => h) false h ⟨rfl, rfl, rfl, rfl, rfl, rfl, rfl, rfl, rfl, trivial⟩
                intro b58 H64 h
                replace h := hR60 b58 H64 h
                refine GL.nil ?_
                refine GC.cond (b := b58) rfl (fun hc65 => ?_) (fun hc65 => ?_)
                · replace h := And.left h hc65
                  refine GC.seq ?_
                  exact GC.never h
                · replace h := And.right h hc65
                  refine GC.seq ?_
                  refine GC.region ?_
                  refine GL.val trivial rfl (OV.move (v := .int .i64 (List.length p_substr : Int)) rfl) ?_
                  obtain ⟨x72, hr73, h⟩ := h
                  refine GL.val trivial rfl (OV.load (p := (1, 0)) rfl rfl hr73) ?_
                  refine GL.val trivial rfl (OV.ibin (v := .bool (decide (((List.length p_substr : Int) : Int) > x72))) rfl rfl rfl) ?_
                  refine GL.val trivial rfl (OV.move (v := .bool (decide (((List.length p_substr : Int) : Int) > x72))) rfl) ?_
                  refine GL.cut0 6 [(127, .bool ((decide (((List.length p_substr : Int) : Int) > x72)) && (decide (((w .i64 (x20.2 + 1)) : Int) ≥ (w .i64 (4 + (sShr .i64 (w .i64 (x25 + 1)) 4))))))), (0, sv p_s), (1, sv p_substr), (5, .int .i64 (List.length p_substr : Int)), (6, .int .u8 (c14.toNat : Int)), (7, .int .u8 (c17.toNat : Int)), (8, .int .i64 (w .i64 (x25 + 1))), (9, .int .i64 (w .i64 ((w .i64 ((List.length p_s : Int) - (List.length p_substr : Int))) + 1))), (10, .int .i64 (w .i64 (x20.2 + 1)))] ?_ ?_
                  · rcases Bool.eq_false_or_eq_true (decide (((List.length p_substr : Int) : Int) > x72)) with hc74 | hc74
                    · skip
                      refine GL.val ⟨_, _, rfl, rfl, hc74⟩ rfl (OV.move (v := .int .i64 (w .i64 (x20.2 + 1))) rfl) ?_
                      refine GL.val ⟨_, _, rfl, rfl, hc74⟩ rfl (OV.move (v := .int .i64 (w .i64 (x25 + 1))) rfl) ?_
                      refine GL.val ⟨_, _, rfl, rfl, hc74⟩ rfl (OV.shr rfl rfl (by decide)) ?_
                      refine GL.val ⟨_, _, rfl, rfl, hc74⟩ rfl (OV.ibin (v := .int .i64 (w .i64 (4 + (sShr .i64 (w .i64 (x25 + 1)) 4)))) rfl rfl rfl) ?_
                      refine GL.val ⟨_, _, rfl, rfl, hc74⟩ rfl (OV.ibin (v := .bool (decide (((w .i64 (x20.2 + 1)) : Int) ≥ (w .i64 (4 + (sShr .i64 (w .i64 (x25 + 1)) 4)))))) rfl rfl rfl) ?_
                      refine GL.val trivial rfl (OV.pickT (b := decide (((List.length p_substr : Int) : Int) > x72)) (v := .bool (decide (((w .i64 (x20.2 + 1)) : Int) ≥ (w .i64 (4 + (sShr .i64 (w .i64 (x25 + 1)) 4)))))) rfl hc74 rfl) ?_
                      exact GL.jump0 (fun _ _ h => h) () rfl ⟨(by rw [hc74]; rfl), rfl, rfl, rfl, rfl, rfl, rfl, rfl, rfl, trivial⟩
                    · skip
                      refine GL.skip ⟨_, rfl, .inl ⟨_, rfl, hc74⟩⟩ rfl ?_
                      refine GL.skip ⟨_, rfl, .inl ⟨_, rfl, hc74⟩⟩ rfl ?_
                      refine GL.skip ⟨_, rfl, .inl ⟨_, rfl, hc74⟩⟩ rfl ?_
                      refine GL.skip ⟨_, rfl, .inl ⟨_, rfl, hc74⟩⟩ rfl ?_
                      refine GL.skip ⟨_, rfl, .inl ⟨_, rfl, hc74⟩⟩ rfl ?_
                      refine GL.val trivial rfl (OV.pickF (b := decide (((List.length p_substr : Int) : Int) > x72)) (v := .bool false) rfl hc74 rfl) ?_
                      exact GL.jump0 (fun _ _ h => h) () rfl ⟨(by rw [hc74]; rfl), rfl, rfl, rfl, rfl, rfl, rfl, rfl, rfl, trivial⟩
                  refine GL.val trivial rfl (OV.move (v := .bool ((decide (((List.length p_substr : Int) : Int) > x72)) && (decide (((w .i64 (x20.2 + 1)) : Int) ≥ (w .i64 (4 + (sShr .i64 (w .i64 (x25 + 1)) 4))))))) rfl) ?_
                  refine GL.cut0 4 [(132, .bool (((decide (((List.length p_substr : Int) : Int) > x72)) && (decide (((w .i64 (x20.2 + 1)) : Int) ≥ (w .i64 (4 + (sShr .i64 (w .i64 (x25 + 1)) 4)))))) && (decide (((w .i64 (x25 + 1)) : Int) < (w .i64 ((w .i64 ((List.length p_s : Int) - (List.length p_substr : Int))) + 1)))))), (0, sv p_s), (1, sv p_substr), (5, .int .i64 (List.length p_substr : Int)), (6, .int .u8 (c14.toNat : Int)), (7, .int .u8 (c17.toNat : Int)), (8, .int .i64 (w .i64 (x25 + 1))), (9, .int .i64 (w .i64 ((w .i64 ((List.length p_s : Int) - (List.length p_substr : Int))) + 1))), (10, .int .i64 (w .i64 (x20.2 + 1)))] ?_ ?_
                  · rcases Bool.eq_false_or_eq_true ((decide (((List.length p_substr : Int) : Int) > x72)) && (decide (((w .i64 (x20.2 + 1)) : Int) ≥ (w .i64 (4 + (sShr .i64 (w .i64 (x25 + 1)) 4)))))) with hc75 | hc75
                    · skip
                      refine GL.val ⟨_, _, rfl, rfl, hc75⟩ rfl (OV.move (v := .int .i64 (w .i64 (x25 + 1))) rfl) ?_
                      refine GL.val ⟨_, _, rfl, rfl, hc75⟩ rfl (OV.move (v := .int .i64 (w .i64 ((w .i64 ((List.length p_s : Int) - (List.length p_substr : Int))) + 1))) rfl) ?_
                      refine GL.val ⟨_, _, rfl, rfl, hc75⟩ rfl (OV.ibin (v := .bool (decide (((w .i64 (x25 + 1)) : Int) < (w .i64 ((w .i64 ((List.length p_s : Int) - (List.length p_substr : Int))) + 1))))) rfl rfl rfl) ?_
                      refine GL.val trivial rfl (OV.pickT (b := (decide (((List.length p_substr : Int) : Int) > x72)) && (decide (((w .i64 (x20.2 + 1)) : Int) ≥ (w .i64 (4 + (sShr .i64 (w .i64 (x25 + 1)) 4)))))) (v := .bool (decide (((w .i64 (x25 + 1)) : Int) < (w .i64 ((w .i64 ((List.length p_s : Int) - (List.length p_substr : Int))) + 1))))) rfl hc75 rfl) ?_
                      exact GL.jump0 (fun _ _ h => h) () rfl ⟨(by rw [hc75]; rfl), rfl, rfl, rfl, rfl, rfl, rfl, rfl, rfl, trivial⟩
                    · skip
                      refine GL.skip ⟨_, rfl, .inl ⟨_, rfl, hc75⟩⟩ rfl ?_
                      refine GL.skip ⟨_, rfl, .inl ⟨_, rfl, hc75⟩⟩ rfl ?_
                      refine GL.skip ⟨_, rfl, .inl ⟨_, rfl, hc75⟩⟩ rfl ?_
                      refine GL.val trivial rfl (OV.pickF (b := (decide (((List.length p_substr : Int) : Int) > x72)) && (decide (((w .i64 (x20.2 + 1)) : Int) ≥ (w .i64 (4 + (sShr .i64 (w .i64 (x25 + 1)) 4)))))) (v := .bool false) rfl hc75 rfl) ?_
                      exact GL.jump0 (fun _ _ h => h) () rfl ⟨(by rw [hc75]; rfl), rfl, rfl, rfl, rfl, rfl, rfl, rfl, rfl, trivial⟩
                  refine GL.nil ?_
                  refine GC.cond (b := ((decide (((List.length p_substr : Int) : Int) > x72)) && (decide (((w .i64 (x20.2 + 1)) : Int) ≥ (w .i64 (4 + (sShr .i64 (w .i64 (x25 + 1)) 4)))))) && (decide (((w .i64 (x25 + 1)) : Int) < (w .i64 ((w .i64 ((List.length p_s : Int) - (List.length p_substr : Int))) + 1))))) rfl (fun hc76 => ?_) (fun hc76 => ?_)
                  · replace h := And.left h hc76
                    refine GC.seq ?_
                    refine GC.region ?_
                    refine GL.val trivial rfl (OV.move (v := sv p_s) rfl) ?_
                    refine GL.val trivial rfl (OV.move (v := .int .i64 (w .i64 (x25 + 1))) rfl) ?_
                    obtain ⟨h78, h79, h80, t77, h81, h⟩ := h
                    refine GL.val trivial rfl (OV.sliceStr (s := p_s) h78 h79 h80 h81 rfl rfl rfl rfl rfl rfl) ?_
                    refine GL.val trivial rfl (OV.move (v := sv p_substr) rfl) ?_
                    refine GL.call h trivial rfl ok_internal_bytealg_IndexRabinKarp_string (vs := [sv t77, sv p_substr]) rfl ?_
                    rintro _ H84 ⟨r83, rfl, h⟩
                    refine GL.val trivial rfl (OV.assign (v := .int .i64 r83) rfl) ?_
                    refine GL.nil ?_
                    refine GC.seq ?_
                    refine GC.seq ?_
                    refine GC.region ?_
                    refine GL.val trivial rfl (OV.move (v := .int .i64 r83) rfl) ?_
                    refine GL.val trivial rfl (OV.ibin (v := .bool (decide ((r83 : Int) < 0))) rfl rfl rfl) ?_
                    refine GL.nil ?_
                    refine GC.cond (b := decide ((r83 : Int) < 0)) rfl (fun hc85 => ?_) (fun hc85 => ?_)
                    · replace h := And.left h hc85
                      refine GC.seq ?_
                      refine GC.region ?_
                      refine GL.val trivial rfl (OV.assign (v := .int .i64 (-1)) rfl) ?_
                      refine GL.nil ?_
                      exact GC.ret (fun _ _ hf hs => post_tmp1 rfl rfl hf hs ⟨(-1), rfl, h⟩)
                    · replace h := And.right h hc85
                      refine GC.skip ?_
                      refine GC.seq ?_
                      refine GC.region ?_
                      refine GL.val trivial rfl (OV.move (v := .int .i64 (w .i64 (x25 + 1))) rfl) ?_
                      refine GL.val trivial rfl (OV.move (v := .int .i64 r83) rfl) ?_
                      refine GL.val trivial rfl (OV.ibin (v := .int .i64 (w .i64 ((w .i64 (x25 + 1)) + r83))) rfl rfl rfl) ?_
                      refine GL.val trivial rfl (OV.assign (v := .int .i64 (w .i64 ((w .i64 (x25 + 1)) + r83))) rfl) ?_
                      refine GL.nil ?_
                      exact GC.ret (fun _ _ hf hs => post_tmp1 rfl rfl hf hs ⟨(w .i64 ((w .i64 (x25 + 1)) + r83)), rfl, h⟩)
                  · replace h := And.right h hc76
                    exact GC.jump (fun _ _ h => h) ((w .i64 (x25 + 1)), (w .i64 (x20.2 + 1))) h ⟨rfl, rfl, rfl, rfl, rfl, rfl, rfl, rfl, trivial⟩
          · replace h := And.right h hc23
            refine GC.exit_to (fun _ _ h => h) ?_
            refine GC.seq ?_
            refine GC.region ?_
            refine GL.val trivial rfl (OV.assign (v := .int .i64 (-1)) rfl) ?_
            refine GL.nil ?_
            exact GC.ret (fun _ _ hf hs => post_tmp1 rfl rfl hf hs ⟨(-1), rfl, h⟩)

def sh_internal_stringslite_HasPrefix (C : Ctx) (p_s : Str) (p_prefix : Str) (K : Bool → Heap → Prop) (H : Heap) : Prop :=
  jn (α := Bool) (fun b1 H11 =>
 K b1 H11)
 (fun J2 => ift (decide (((List.length p_s : Int) : Int) ≥ (List.length p_prefix : Int)))
 (slS p_s 0 (List.length p_prefix : Int) fun t5 =>
 J2 (t5 == p_prefix) H)
 (J2 false H))

theorem ad_internal_stringslite_HasPrefix (C : Ctx) (p_s : Str) (p_prefix : Str) (K : Bool → Heap → Prop) (H : Heap) (h : sh_internal_stringslite_HasPrefix C p_s p_prefix K H) : c_internal_stringslite_HasPrefix C p_s p_prefix K H := by
  refine Spec.enter Tryz.func102 rfl Tryz.ntmps102 rfl ?_
  refine GC.sub [(0, sv p_s), (1, sv p_prefix)] ⟨rfl, rfl, trivial⟩ ?_
  refine GC.seq ?_
  refine GC.region ?_
  refine GL.val trivial rfl (OV.assign (v := .bool false) rfl) ?_
  refine GL.nil ?_
  refine GC.seq ?_
  refine GC.region ?_
  refine GL.val trivial rfl (OV.move (v := sv p_s) rfl) ?_
  refine GL.val trivial rfl (OV.lenStr (s := p_s) rfl rfl) ?_
  refine GL.val trivial rfl (OV.move (v := sv p_prefix) rfl) ?_
  refine GL.val trivial rfl (OV.lenStr (s := p_prefix) rfl rfl) ?_
  refine GL.val trivial rfl (OV.ibin (v := .bool (decide (((List.length p_s : Int) : Int) ≥ (List.length p_prefix : Int)))) rfl rfl rfl) ?_
  refine GL.val trivial rfl (OV.move (v := .bool (decide (((List.length p_s : Int) : Int) ≥ (List.length p_prefix : Int)))) rfl) ?_
  obtain ⟨J2, h, hR3⟩ := h
  refine GL.cut (α := Bool) 7 J2 (fun b1 => [(17, .bool b1)]) ?_ ?_
  · rcases Bool.eq_false_or_eq_true (decide (((List.length p_s : Int) : Int) ≥ (List.length p_prefix : Int))) with hc4 | hc4
    · skip
      replace h := And.left h hc4
      refine GL.val ⟨_, _, rfl, rfl, hc4⟩ rfl (OV.move (v := sv p_s) rfl) ?_
      refine GL.val ⟨_, _, rfl, rfl, hc4⟩ rfl (OV.move (v := sv p_prefix) rfl) ?_
      refine GL.val ⟨_, _, rfl, rfl, hc4⟩ rfl (OV.lenStr (s := p_prefix) rfl rfl) ?_
      obtain ⟨h6, h7, h8, t5, h9, h⟩ := h
      refine GL.val ⟨_, _, rfl, rfl, hc4⟩ rfl (OV.sliceStr (s := p_s) h6 h7 h8 h9 rfl rfl rfl rfl rfl rfl) ?_
      refine GL.val ⟨_, _, rfl, rfl, hc4⟩ rfl (OV.move (v := sv p_prefix) rfl) ?_
      refine GL.val ⟨_, _, rfl, rfl, hc4⟩ rfl (OV.sbin (a := t5) (b := p_prefix) (v := .bool (t5 == p_prefix)) rfl rfl rfl) ?_
      refine GL.val trivial rfl (OV.pickT (b := decide (((List.length p_s : Int) : Int) ≥ (List.length p_prefix : Int))) (v := .bool (t5 == p_prefix)) rfl hc4 rfl) ?_
      exact GL.jump (fun _ _ h => h) (t5 == p_prefix) h ⟨rfl, trivial⟩
    · skip
      replace h := And.right h hc4
      refine GL.skip ⟨_, rfl, .inl ⟨_, rfl, hc4⟩⟩ rfl ?_
      refine GL.skip ⟨_, rfl, .inl ⟨_, rfl, hc4⟩⟩ rfl ?_
      refine GL.skip ⟨_, rfl, .inl ⟨_, rfl, hc4⟩⟩ rfl ?_
      refine GL.skip ⟨_, rfl, .inl ⟨_, rfl, hc4⟩⟩ rfl ?_
      refine GL.skip ⟨_, rfl, .inl ⟨_, rfl, hc4⟩⟩ rfl ?_
      refine GL.skip ⟨_, rfl, .inl ⟨_, rfl, hc4⟩⟩ rfl ?_
      refine GL.val trivial rfl (OV.pickF (b := decide (((List.length p_s : Int) : Int) ≥ (List.length p_prefix : Int))) (v := .bool false) rfl hc4 rfl) ?_
      exact GL.jump (fun _ _ h => h) false h ⟨rfl, trivial⟩
  intro b1 H11 h
  replace h := hR3 b1 H11 h
  refine GL.val trivial rfl (OV.assign (v := .bool b1) rfl) ?_
  refine GL.nil ?_
  exact GC.ret (fun _ _ hf hs => post_tmp1 rfl rfl hf hs ⟨b1, rfl, h⟩)

def sh_cmp_isNaN_int (C : Ctx) (p_x : Int) (K : Bool → Heap → Prop) (H : Heap) : Prop :=
  K ((p_x : Int) != p_x) H

theorem ad_cmp_isNaN_int (C : Ctx) (p_x : Int) (K : Bool → Heap → Prop) (H : Heap) (h : sh_cmp_isNaN_int C p_x K H) : c_cmp_isNaN_int C p_x K H := by
  refine Spec.enter Tryz.func103 rfl Tryz.ntmps103 rfl ?_
  refine GC.sub [(0, .int .i64 p_x)] ⟨rfl, trivial⟩ ?_
  refine GC.seq ?_
  refine GC.region ?_
  refine GL.val trivial rfl (OV.assign (v := .bool false) rfl) ?_
  refine GL.nil ?_
  refine GC.seq ?_
  refine GC.region ?_
  refine GL.val trivial rfl (OV.move (v := .int .i64 p_x) rfl) ?_
  refine GL.val trivial rfl (OV.move (v := .int .i64 p_x) rfl) ?_
  refine GL.val trivial rfl (OV.ibin (v := .bool ((p_x : Int) != p_x)) rfl rfl rfl) ?_
  refine GL.val trivial rfl (OV.assign (v := .bool ((p_x : Int) != p_x)) rfl) ?_
  refine GL.nil ?_
  exact GC.ret (fun _ _ hf hs => post_tmp1 rfl rfl hf hs ⟨((p_x : Int) != p_x), rfl, h⟩)

def sh_ref02_letter (C : Ctx) (p_c : Int) (K : Bool → Heap → Prop) (H : Heap) : Prop :=
  K ((decide ((p_c : Int) ≥ 97)) && (decide ((p_c : Int) ≤ 122))) H

theorem ad_ref02_letter (C : Ctx) (p_c : Int) (K : Bool → Heap → Prop) (H : Heap) (h : sh_ref02_letter C p_c K H) : c_ref02_letter C p_c K H := by
  refine Spec.enter Tryz.func104 rfl Tryz.ntmps104 rfl ?_
  refine GC.sub [(0, .int .u8 p_c)] ⟨rfl, trivial⟩ ?_
  refine GC.seq ?_
  refine GC.region ?_
  refine GL.val trivial rfl (OV.assign (v := .bool false) rfl) ?_
  refine GL.nil ?_
  refine GC.seq ?_
  refine GC.region ?_
  refine GL.val trivial rfl (OV.move (v := .int .u8 p_c) rfl) ?_
  refine GL.val trivial rfl (OV.ibin (v := .bool (decide ((p_c : Int) ≥ 97))) rfl rfl rfl) ?_
  refine GL.val trivial rfl (OV.move (v := .bool (decide ((p_c : Int) ≥ 97))) rfl) ?_
  refine GL.cut0 3 [(8, .bool ((decide ((p_c : Int) ≥ 97)) && (decide ((p_c : Int) ≤ 122))))] ?_ ?_
  · rcases Bool.eq_false_or_eq_true (decide ((p_c : Int) ≥ 97)) with hc1 | hc1
    · skip
      refine GL.val ⟨_, _, rfl, rfl, hc1⟩ rfl (OV.move (v := .int .u8 p_c) rfl) ?_
      refine GL.val ⟨_, _, rfl, rfl, hc1⟩ rfl (OV.ibin (v := .bool (decide ((p_c : Int) ≤ 122))) rfl rfl rfl) ?_
      refine GL.val trivial rfl (OV.pickT (b := decide ((p_c : Int) ≥ 97)) (v := .bool (decide ((p_c : Int) ≤ 122))) rfl hc1 rfl) ?_
      exact GL.jump0 (fun _ _ h => h) () rfl ⟨(by rw [hc1]; rfl), trivial⟩
    · skip
      refine GL.skip ⟨_, rfl, .inl ⟨_, rfl, hc1⟩⟩ rfl ?_
      refine GL.skip ⟨_, rfl, .inl ⟨_, rfl, hc1⟩⟩ rfl ?_
      refine GL.val trivial rfl (OV.pickF (b := decide ((p_c : Int) ≥ 97)) (v := .bool false) rfl hc1 rfl) ?_
      exact GL.jump0 (fun _ _ h => h) () rfl ⟨(by rw [hc1]; rfl), trivial⟩
  refine GL.val trivial rfl (OV.assign (v := .bool ((decide ((p_c : Int) ≥ 97)) && (decide ((p_c : Int) ≤ 122)))) rfl) ?_
  refine GL.nil ?_
  exact GC.ret (fun _ _ hf hs => post_tmp1 rfl rfl hf hs ⟨((decide ((p_c : Int) ≥ 97)) && (decide ((p_c : Int) ≤ 122))), rfl, h⟩)

def sh_slices_swapRangeCmpFunc_api_Value (C : Ctx) (p_data : Sl) (p_a : Int) (p_b : Int) (p_n : Int) (p_cmp : Value) (K : Heap → Prop) (H : Heap) : Prop :=
  lp (α := Int) 0 H (fun x1 J2 H3 =>
 ift (decide ((x1 : Int) < p_n))
 (jn (α := Unit) (fun x6 H7 =>
 J2 (w .i64 (x1 + 1)) H7)
 (fun J5 => dr H3 fun Hs9 =>
 ixa p_data (w .i64 (p_b + x1)) fun p11 =>
 ixa p_data (w .i64 (p_a + x1)) fun p16 =>
 (ldL H3 (p11.1, p11.2 + (w .i64 (p_b + x1) : Int).toNat * 1) fun x22 =>
 Heap.le Hs9 H3 ∧
 ldL H3 (p16.1, p16.2 + (w .i64 (p_a + x1) : Int).toNat * 1) fun x25 =>
 Heap.le Hs9 H3 ∧
 ixa p_data (w .i64 (p_a + x1)) fun p27 =>
 st (p27.1, p27.2 + (w .i64 (p_a + x1) : Int).toNat * 1) (slv x22) (fun H33 =>
 Heap.le Hs9 H33 ∧
 ixa p_data (w .i64 (p_b + x1)) fun p34 =>
 st (p34.1, p34.2 + (w .i64 (p_b + x1) : Int).toNat * 1) (slv x25) (fun H39 =>
 J5 () H39) H33) H3) ∧
 (ldL H3 (p16.1, p16.2 + (w .i64 (p_a + x1) : Int).toNat * 1) fun x41 =>
 Heap.le Hs9 H3 ∧
 ldL H3 (p11.1, p11.2 + (w .i64 (p_b + x1) : Int).toNat * 1) fun x44 =>
 Heap.le Hs9 H3 ∧
 ixa p_data (w .i64 (p_a + x1)) fun p46 =>
 st (p46.1, p46.2 + (w .i64 (p_a + x1) : Int).toNat * 1) (slv x44) (fun H52 =>
 Heap.le Hs9 H52 ∧
 ixa p_data (w .i64 (p_b + x1)) fun p53 =>
 st (p53.1, p53.2 + (w .i64 (p_b + x1) : Int).toNat * 1) (slv x41) (fun H58 =>
 J5 () H58) H52) H3)))
 (K H3))

theorem ad_slices_swapRangeCmpFunc_api_Value (C : Ctx) (p_data : Sl) (p_a : Int) (p_b : Int) (p_n : Int) (p_cmp : Value) (K : Heap → Prop) (H : Heap) (h : sh_slices_swapRangeCmpFunc_api_Value C p_data p_a p_b p_n p_cmp K H) : c_slices_swapRangeCmpFunc_api_Value C p_data p_a p_b p_n p_cmp K H := by
  refine Spec.enter Tryz.func105 rfl Tryz.ntmps105 rfl ?_
  refine GC.sub [(0, slv p_data), (1, .int .i64 p_a), (2, .int .i64 p_b), (3, .int .i64 p_n), (4, p_cmp)] ⟨rfl, rfl, rfl, rfl, rfl, trivial⟩ ?_
  refine GC.seq ?_
  refine GC.region ?_
  refine GL.val trivial rfl (OV.assign (v := .int .i64 0) rfl) ?_
  refine GL.nil ?_
  refine GC.block ?_
  refine GC.loop (α := Int) h (fun x1 => [(10, .int .i64 x1), (0, slv p_data), (1, .int .i64 p_a), (2, .int .i64 p_b), (3, .int .i64 p_n)]) ⟨rfl, rfl, rfl, rfl, rfl, trivial⟩ ?_
  intro x1 H3 J2 h
  refine GC.seq ?_
  refine GC.seq ?_
  refine GC.region ?_
  refine GL.val trivial rfl (OV.move (v := .int .i64 x1) rfl) ?_
  refine GL.val trivial rfl (OV.move (v := .int .i64 p_n) rfl) ?_
  refine GL.val trivial rfl (OV.ibin (v := .bool (decide ((x1 : Int) < p_n))) rfl rfl rfl) ?_
  refine GL.nil ?_
  refine GC.cond (b := decide ((x1 : Int) < p_n)) rfl (fun hc4 => ?_) (fun hc4 => ?_)
  · replace h := And.left h hc4
    refine GC.skip ?_
    refine GC.seq ?_
    refine GC.block ?_
    obtain ⟨J5, h, hR8⟩ := h
    refine GC.meet (α := Unit) J5 (fun _ => [(0, slv p_data), (1, .int .i64 p_a), (2, .int .i64 p_b), (3, .int .i64 p_n), (10, .int .i64 x1)]) ?_ ?_
    · skip
      obtain ⟨Hs9, hle10, h⟩ := h
      refine GC.tail (Hs := Hs9) 23 (by kernel_rfl) hle10 (by kernel_rfl) ?_
      refine GT.take 0 rfl (by kernel_rfl) (by kernel_rfl) (by kernel_rfl) rfl (fun _ _ _ h => False.elim h) trivial rfl (OV.move (v := slv p_data) rfl) ?_
      refine GT.take 1 rfl (by kernel_rfl) (by kernel_rfl) (by kernel_rfl) rfl (fun _ _ _ h => False.elim h) trivial rfl (OV.move (v := .int .i64 p_a) rfl) ?_
      refine GT.take 2 rfl (by kernel_rfl) (by kernel_rfl) (by kernel_rfl) rfl (fun _ _ _ h => False.elim h) trivial rfl (OV.move (v := .int .i64 x1) rfl) ?_
      refine GT.take 3 rfl (by kernel_rfl) (by kernel_rfl) (by kernel_rfl) rfl (fun _ _ _ h => False.elim h) trivial rfl (OV.ibin (v := .int .i64 (w .i64 (p_a + x1))) rfl rfl rfl) ?_
      refine GT.take 4 rfl (by kernel_rfl) (by kernel_rfl) (by kernel_rfl) rfl (fun _ _ _ h => False.elim h) trivial rfl (OV.move (v := slv p_data) rfl) ?_
      refine GT.take 5 rfl (by kernel_rfl) (by kernel_rfl) (by kernel_rfl) rfl (fun _ _ _ h => False.elim h) trivial rfl (OV.move (v := .int .i64 p_b) rfl) ?_
      refine GT.take 6 rfl (by kernel_rfl) (by kernel_rfl) (by kernel_rfl) rfl (fun _ _ _ h => False.elim h) trivial rfl (OV.move (v := .int .i64 x1) rfl) ?_
      refine GT.take 7 rfl (by kernel_rfl) (by kernel_rfl) (by kernel_rfl) rfl (fun _ _ _ h => False.elim h) trivial rfl (OV.ibin (v := .int .i64 (w .i64 (p_b + x1))) rfl rfl rfl) ?_
      refine GT.take 8 rfl (by kernel_rfl) (by kernel_rfl) (by kernel_rfl) rfl (fun _ _ _ h => False.elim h) trivial rfl (OV.move (v := slv p_data) rfl) ?_
      refine GT.take 9 rfl (by kernel_rfl) (by kernel_rfl) (by kernel_rfl) rfl (fun _ _ _ h => False.elim h) trivial rfl (OV.move (v := .int .i64 p_b) rfl) ?_
      refine GT.take 10 rfl (by kernel_rfl) (by kernel_rfl) (by kernel_rfl) rfl (fun _ _ _ h => False.elim h) trivial rfl (OV.move (v := .int .i64 x1) rfl) ?_
      refine GT.take 11 rfl (by kernel_rfl) (by kernel_rfl) (by kernel_rfl) rfl (fun _ _ _ h => False.elim h) trivial rfl (OV.ibin (v := .int .i64 (w .i64 (p_b + x1))) rfl rfl rfl) ?_
      obtain ⟨p11, ha12, hb13, hc14, hd15, h⟩ := h
      refine GT.take 12 rfl (by kernel_rfl) (by kernel_rfl) (by kernel_rfl) rfl (fun _ _ _ h => False.elim h) trivial rfl (OV.indexAddr (s := p_data) rfl rfl rfl rfl ha12 hb13 hc14 hd15) ?_
      refine GT.take 14 rfl (by kernel_rfl) (by kernel_rfl) (by kernel_rfl) rfl (fun _ _ _ h => False.elim h) trivial rfl (OV.move (v := slv p_data) rfl) ?_
      refine GT.take 15 rfl (by kernel_rfl) (by kernel_rfl) (by kernel_rfl) rfl (fun _ _ _ h => False.elim h) trivial rfl (OV.move (v := .int .i64 p_a) rfl) ?_
      refine GT.take 16 rfl (by kernel_rfl) (by kernel_rfl) (by kernel_rfl) rfl (fun _ _ _ h => False.elim h) trivial rfl (OV.move (v := .int .i64 x1) rfl) ?_
      refine GT.take 17 rfl (by kernel_rfl) (by kernel_rfl) (by kernel_rfl) rfl (fun _ _ _ h => False.elim h) trivial rfl (OV.ibin (v := .int .i64 (w .i64 (p_a + x1))) rfl rfl rfl) ?_
      obtain ⟨p16, ha17, hb18, hc19, hd20, h⟩ := h
      refine GT.take 18 rfl (by kernel_rfl) (by kernel_rfl) (by kernel_rfl) rfl (fun _ _ _ h => False.elim h) trivial rfl (OV.indexAddr (s := p_data) rfl rfl rfl rfl ha17 hb18 hc19 hd20) ?_
      refine GT.effs [13, 19] (by kernel_rfl) (by simp) (List.forall_mem_cons.2 ⟨⟨_, rfl, rfl, ?_⟩, List.forall_mem_cons.2 ⟨⟨_, rfl, rfl, ?_⟩, fun _ h => by cases h⟩⟩)
      · replace h := h.1
        obtain ⟨x22, hr23, h⟩ := h
        refine GL.val trivial rfl (OV.load (p := (p11.1, p11.2 + (w .i64 (p_b + x1) : Int).toNat * 1)) rfl rfl hr23) ?_
        obtain ⟨hle21, h⟩ := h
        refine GT.back hle21 ?_
        refine GT.eff 19 rfl (by kernel_rfl) rfl ?_
        obtain ⟨x25, hr26, h⟩ := h
        refine GL.val trivial rfl (OV.load (p := (p16.1, p16.2 + (w .i64 (p_a + x1) : Int).toNat * 1)) rfl rfl hr26) ?_
        obtain ⟨hle24, h⟩ := h
        refine GT.back hle24 ?_
        obtain ⟨p27, ha28, hb29, hc30, hd31, h⟩ := h
        refine GT.take 20 rfl (by kernel_rfl) (by kernel_rfl) (by kernel_rfl) rfl (fun _ _ _ h => False.elim h) trivial rfl (OV.indexAddr (s := p_data) rfl rfl rfl rfl ha28 hb29 hc30 hd31) ?_
        refine GT.eff 21 rfl (by kernel_rfl) rfl ?_
        refine GL.store (p := (p27.1, p27.2 + (w .i64 (p_a + x1) : Int).toNat * 1)) (v := slv x22) h trivial rfl rfl rfl rfl ?_
        intro H33 h
        obtain ⟨hle32, h⟩ := h
        refine GT.back hle32 ?_
        obtain ⟨p34, ha35, hb36, hc37, hd38, h⟩ := h
        refine GT.take 22 rfl (by kernel_rfl) (by kernel_rfl) (by kernel_rfl) rfl (fun _ _ _ h => False.elim h) trivial rfl (OV.indexAddr (s := p_data) rfl rfl rfl rfl ha35 hb36 hc37 hd38) ?_
        refine GT.done (by kernel_rfl) ?_
        show GL _ _ _ _ _ [_] _ _
        refine GL.store (p := (p34.1, p34.2 + (w .i64 (p_b + x1) : Int).toNat * 1)) (v := slv x25) h trivial rfl rfl rfl rfl ?_
        intro H39 h
        exact GL.jump (fun _ _ h => h) () h ⟨rfl, rfl, rfl, rfl, rfl, trivial⟩
      · replace h := h.2
        obtain ⟨x41, hr42, h⟩ := h
        refine GL.val trivial rfl (OV.load (p := (p16.1, p16.2 + (w .i64 (p_a + x1) : Int).toNat * 1)) rfl rfl hr42) ?_
        obtain ⟨hle40, h⟩ := h
        refine GT.back hle40 ?_
        refine GT.eff 13 rfl (by kernel_rfl) rfl ?_
        obtain ⟨x44, hr45, h⟩ := h
        refine GL.val trivial rfl (OV.load (p := (p11.1, p11.2 + (w .i64 (p_b + x1) : Int).toNat * 1)) rfl rfl hr45) ?_
        obtain ⟨hle43, h⟩ := h
        refine GT.back hle43 ?_
        obtain ⟨p46, ha47, hb48, hc49, hd50, h⟩ := h
        refine GT.take 20 rfl (by kernel_rfl) (by kernel_rfl) (by kernel_rfl) rfl (fun _ _ _ h => False.elim h) trivial rfl (OV.indexAddr (s := p_data) rfl rfl rfl rfl ha47 hb48 hc49 hd50) ?_
        refine GT.eff 21 rfl (by kernel_rfl) rfl ?_
        refine GL.store (p := (p46.1, p46.2 + (w .i64 (p_a + x1) : Int).toNat * 1)) (v := slv x44) h trivial rfl rfl rfl rfl ?_
        intro H52 h
        obtain ⟨hle51, h⟩ := h
        refine GT.back hle51 ?_
        obtain ⟨p53, ha54, hb55, hc56, hd57, h⟩ := h
        refine GT.take 22 rfl (by kernel_rfl) (by kernel_rfl) (by kernel_rfl) rfl (fun _ _ _ h => False.elim h) trivial rfl (OV.indexAddr (s := p_data) rfl rfl rfl rfl ha54 hb55 hc56 hd57) ?_
        refine GT.done (by kernel_rfl) ?_
        show GL _ _ _ _ _ [_] _ _
        refine GL.store (p := (p53.1, p53.2 + (w .i64 (p_b + x1) : Int).toNat * 1)) (v := slv x41) h trivial rfl rfl rfl rfl ?_
        intro H58 h
        exact GL.jump (fun _ _ h => h) () h ⟨rfl, rfl, rfl, rfl, rfl, trivial⟩
    · intro x6 H7 h
      replace h := hR8 x6 H7 h
      refine GL.nil_to (fun _ _ h => h) ?_
      refine GC.region ?_
      refine GL.val trivial rfl (OV.move (v := .int .i64 x1) rfl) ?_
      refine GL.val trivial rfl (OV.ibin (v := .int .i64 (w .i64 (x1 + 1))) rfl rfl rfl) ?_
      refine GL.val trivial rfl (OV.assign (v := .int .i64 (w .i64 (x1 + 1))) rfl) ?_
      exact GL.jump (fun _ _ h => h) (w .i64 (x1 + 1)) h ⟨rfl, rfl, rfl, rfl, rfl, trivial⟩
  · replace h := And.right h hc4
    exact GC.exit_ends (fun _ _ hf hs => post_tmp0 rfl hf hs ⟨rfl, h⟩)

def sh_strings_asciiSet_contains (C : Ctx) (p_as : Option (Nat × Nat)) (p_c : Int) (K : Bool → Heap → Prop) (H : Heap) : Prop :=
  nck p_as fun p1 =>
 ixr p1 256 p_c <|
 ldB H (p1.1, p1.2 + (p_c : Int).toNat * 1) fun x5 =>
 K x5 H

theorem ad_strings_asciiSet_contains (C : Ctx) (p_as : Option (Nat × Nat)) (p_c : Int) (K : Bool → Heap → Prop) (H : Heap) (h : sh_strings_asciiSet_contains C p_as p_c K H) : c_strings_asciiSet_contains C p_as p_c K H := by
  refine Spec.enter Tryz.func106 rfl Tryz.ntmps106 rfl ?_
  refine GC.sub [(0, pv p_as), (1, .int .u8 p_c)] ⟨rfl, rfl, trivial⟩ ?_
  refine GC.seq ?_
  refine GC.region ?_
  refine GL.val trivial rfl (OV.assign (v := .bool false) rfl) ?_
  refine GL.nil ?_
  refine GC.seq ?_
  refine GC.region ?_
  refine GL.val trivial rfl (OV.move (v := pv p_as) rfl) ?_
  refine GL.val trivial rfl (OV.move (v := .int .u8 p_c) rfl) ?_
  obtain ⟨p1, hp2, h⟩ := h
  refine GL.val trivial rfl (OV.nilCheck (q := p_as) rfl hp2) ?_
  obtain ⟨ha3, hb4, h⟩ := h
  refine GL.val trivial rfl (OV.indexAddrA (p := p1) rfl rfl rfl rfl ha3 hb4) ?_
  obtain ⟨x5, hr6, h⟩ := h
  refine GL.val trivial rfl (OV.load (p := (p1.1, p1.2 + (p_c : Int).toNat * 1)) rfl rfl hr6) ?_
  refine GL.val trivial rfl (OV.assign (v := .bool x5) rfl) ?_
  refine GL.nil ?_
  exact GC.ret (fun _ _ hf hs => post_tmp1 rfl rfl hf hs ⟨x5, rfl, h⟩)

def sh_internal_stringslite_IndexByte (C : Ctx) (p_s : Str) (p_c : Int) (K : Int → Heap → Prop) (H : Heap) : Prop :=
  K (idxB p_s p_c) H

theorem ad_internal_stringslite_IndexByte (C : Ctx) (p_s : Str) (p_c : Int) (K : Int → Heap → Prop) (H : Heap) (h : sh_internal_stringslite_IndexByte C p_s p_c K H) : c_internal_stringslite_IndexByte C p_s p_c K H := by
  refine Spec.enter Tryz.func110 rfl Tryz.ntmps110 rfl ?_
  refine GC.sub [(0, sv p_s), (1, .int .u8 p_c)] ⟨rfl, rfl, trivial⟩ ?_
  refine GC.seq ?_
  refine GC.region ?_
  refine GL.val trivial rfl (OV.assign (v := .int .i64 0) rfl) ?_
  refine GL.nil ?_
  refine GC.seq ?_
  refine GC.region ?_
  refine GL.val trivial rfl (OV.move (v := sv p_s) rfl) ?_
  refine GL.val trivial rfl (OV.move (v := .int .u8 p_c) rfl) ?_
  refine GL.val trivial rfl (OV.ext ext_internal_bytealg_IndexByteString (vs := [sv p_s, .int .u8 p_c]) (v := .int .i64 (idxB p_s p_c)) rfl (fun w => run_idxB _ _ w)) ?_
  refine GL.val trivial rfl (OV.assign (v := .int .i64 (idxB p_s p_c)) rfl) ?_
  refine GL.nil ?_
  exact GC.ret (fun _ _ hf hs => post_tmp1 rfl rfl hf hs ⟨(idxB p_s p_c), rfl, h⟩)

end Sx
end

noncomputable section
set_option linter.unusedVariables false
namespace Go.Proofs
open Go.Shelf
def Tryz.lays173_ren : Go.Shelf.Ren := ⟨fun | 173 => 39 | 246 => 61 | 283 => 77 | 284 => 78 | 285 => 79 | 286 => 80 | 129 => 98 | 317 => 97 | 318 => 99 | 319 => 100 | 320 => 101 | 337 => 114 | 338 => 115 | n => n, fun | 2 => 2 | 3 => 3 | 9 => 9 | 4 => 4 | 171 => 87 | 0 => 0 | 53 => 88 | 37 => 47 | 5 => 5 | 173 => 91 | 212 => 107 | 51 => 108 | 20 => 20 | 213 => 109 | 46 => 75 | 232 => 120 | 233 => 121 | n => n, fun | 17 => 0 | 18 => 2 | 19 => 3 | n => n⟩
theorem Tryz.lays173 : Go.Proofs.LaysM.n173 Tryz.prog Tryz.lays173_ren := {
  mixed := by kernel_rfl
  f129 := Tryz.func98.trans (congrArg some (by kernel_rfl))
  f173 := Tryz.func39.trans (congrArg some (by kernel_rfl))
  f246 := Tryz.func61.trans (congrArg some (by kernel_rfl))
  f283 := Tryz.func77.trans (congrArg some (by kernel_rfl))
  f284 := Tryz.func78.trans (congrArg some (by kernel_rfl))
  f285 := Tryz.func79.trans (congrArg some (by kernel_rfl))
  f286 := Tryz.func80.trans (congrArg some (by kernel_rfl))
  f317 := Tryz.func97.trans (congrArg some (by kernel_rfl))
  f318 := Tryz.func99.trans (congrArg some (by kernel_rfl))
  f319 := Tryz.func100.trans (congrArg some (by kernel_rfl))
  f320 := Tryz.func101.trans (congrArg some (by kernel_rfl))
  f337 := Tryz.func114.trans (congrArg some (by kernel_rfl))
  f338 := Tryz.func115.trans (congrArg some (by kernel_rfl))
  t0 := Tryz.underlying0
  a0 := Tryz.isAgg0
  z0 := Tryz.sizeOf0
  v0 := Tryz.zeroValue0
  t2 := Tryz.underlying2
  a2 := Tryz.isAgg2
  z2 := Tryz.sizeOf2
  v2 := Tryz.zeroValue2
  t3 := Tryz.underlying3
  a3 := Tryz.isAgg3
  z3 := Tryz.sizeOf3
  v3 := Tryz.zeroValue3
  t4 := Tryz.underlying4
  a4 := Tryz.isAgg4
  z4 := Tryz.sizeOf4
  v4 := Tryz.zeroValue4
  t5 := Tryz.underlying5
  a5 := Tryz.isAgg5
  z5 := Tryz.sizeOf5
  v5 := Tryz.zeroValue5
  t9 := Tryz.underlying9
  a9 := Tryz.isAgg9
  z9 := Tryz.sizeOf9
  v9 := Tryz.zeroValue9
  t20 := Tryz.underlying20
  a20 := Tryz.isAgg20
  z20 := Tryz.sizeOf20
  v20 := Tryz.zeroValue20
  t37 := Tryz.underlying47
  a37 := Tryz.isAgg47
  z37 := Tryz.sizeOf47
  v37 := Tryz.zeroValue47
  t46 := Tryz.underlying75
  a46 := Tryz.isAgg75
  z46 := Tryz.sizeOf75
  v46 := Tryz.zeroValue75
  t51 := Tryz.underlying108
  a51 := Tryz.isAgg108
  z51 := Tryz.sizeOf108
  v51 := Tryz.zeroValue108
  t53 := Tryz.underlying88
  a53 := Tryz.isAgg88
  z53 := Tryz.sizeOf88
  v53 := Tryz.zeroValue88
  t171 := Tryz.underlying87
  a171 := Tryz.isAgg87
  z171 := Tryz.sizeOf87
  v171 := Tryz.zeroValue87
  t173 := Tryz.underlying91
  a173 := Tryz.isAgg91
  z173 := Tryz.sizeOf91
  v173 := Tryz.zeroValue91
  t212 := Tryz.underlying107
  a212 := Tryz.isAgg107
  z212 := Tryz.sizeOf107
  v212 := Tryz.zeroValue107
  t213 := Tryz.underlying109
  a213 := Tryz.isAgg109
  z213 := Tryz.sizeOf109
  t232 := Tryz.underlying120
  a232 := Tryz.isAgg120
  z232 := Tryz.sizeOf120
  v232 := Tryz.zeroValue120
  t233 := Tryz.underlying121
  a233 := Tryz.isAgg121
  z233 := Tryz.sizeOf121
  v233 := Tryz.zeroValue121
  g17 := by kernel_rfl
  g18 := by kernel_rfl
  g19 := by kernel_rfl
  i0 := by kernel_rfl
  i2 := by kernel_rfl
  i3 := by kernel_rfl
  i4 := by kernel_rfl
  i5 := by kernel_rfl
  i9 := by kernel_rfl
  i20 := by kernel_rfl
  i37 := by kernel_rfl
  i46 := by kernel_rfl
  i51 := by kernel_rfl
  i53 := by kernel_rfl
  i171 := by kernel_rfl
  i173 := by kernel_rfl
  i212 := by kernel_rfl
  i232 := by kernel_rfl
  i233 := by kernel_rfl
  m17 := by kernel_rfl
  m18 := by kernel_rfl
  m19 := by kernel_rfl }
end Go.Proofs
namespace Sx
open Go Go.Proofs Go.Stop Go.RowKit
/-- the table of powers, as it was laid -/
def PowT (C : Ctx) : Prop := ∃ t fr, C.old[(Tryz.lays173_ren.g 17)]? = some (.cells (Lib.pow10Tab.map fun z => Value.int .u64 z).toArray t fr)
/-- what writes numbers -/
structure FmtC (C : Ctx) : Prop where
  ok : ∀ {n : Int} {H : Heap} {K : Str → Heap → Prop}, -9223372036854775808 ≤ n → n ≤ 9223372036854775807 → K (Lib.itoa n) H → c_strconv_FormatInt C n 10 K H
theorem St.more {C : Ctx} {w : World} {H : Heap} (h : St C w H) (o : Obj) : St C { w with heap := w.heap.push o } H := by
  by_cases hc : ∃ c t fr, o = .cells c t fr
  · obtain ⟨c, t, fr, rfl⟩ := hc
    exact (h.push (o := .cells c t fr) (m := false) (g := .row c.toList) ⟨by simp, fun h => by cases h⟩).weaken (Heap.le_put h.fresh)
  · exact (h.push (o := o) (m := false) (g := .obj o) ⟨rfl, fun c t fr e => hc ⟨c, t, fr, e⟩⟩).weaken (Heap.le_put h.fresh)
theorem St.growL {C : Ctx} {H : Heap} : ∀ (os : List Obj) {w : World}, St C w H → St C { w with heap := w.heap ++ os.toArray } H
  | [], w, h => by
    have e : w.heap ++ ([] : List Obj).toArray = w.heap := by simp
    rw [e]; exact h
  | o :: os, w, h => by
    have e : w.heap ++ (o :: os).toArray = w.heap.push o ++ os.toArray := by apply Array.ext'; simp
    have := St.growL os (h.more o)
    rw [e]; exact this
theorem St.drewN {C : Ctx} {H : Heap} {w : World} (h : St C w H) : ∀ k, St C (w.drewN k) H
  | 0 => h
  | k + 1 => (St.drewN h k).drew
theorem fmt_ok {C : Ctx} (hT : PowT C) : FmtC C := ⟨fun {n H K} h0 h1 k => by
  intro w hw
  obtain ⟨t, fr, hg⟩ := hT
  have hlt := (Array.getElem?_eq_some_iff.1 hg).1
  refine (Any.strconv_FormatInt_10 Tryz.lays173 n h0 h1 w ?_).mono ?_
  · unfold Lib.TabIs World.var?
    rw [Tryz.lays173.m17]
    simp only [Option.bind_some]
    rw [hw.old _ hlt, hg]
  · rintro e w' ⟨rfl, k', os, rfl⟩
    have h2 := St.growL os.toList (hw.drewN k')
    rw [Array.toArray_toList] at h2
    exact ⟨_, H, rfl, h2, ⟨_, rfl, k⟩⟩⟩
theorem pow_laid {W : World} {name : String} (hg : Tryz.prog.globalNamed name = some (Tryz.lays173_ren.g 17)) : ∀ (i : Nat) {l : List (String × DataW Unit)} {ps : List MemPlace}, DataW.LaidVars Tryz.prog W l ps → l[i]? = some (name, Lib.tabData .u64 Lib.pow10Tab) → PowT (ctxOf W)
  | _, [], ps, _, hi => by simp at hi
  | 0, (n, d) :: r, ps, ⟨g, t, cs, fuel, p, q, h1, h2, h3, h4, h5, h6⟩, hi => by
    simp only [List.getElem?_cons_zero, Option.some.injEq, Prod.mk.injEq] at hi
    obtain ⟨rfl, rfl⟩ := hi
    obtain rfl := Option.some.inj (hg.symm.trans h1)
    have hT : (Tryz.prog.globals[(Tryz.lays173_ren.g 17)]?).map (·.type) = some 107 := by kernel_rfl
    obtain rfl := Option.some.inj (hT.symm.trans h2)
    have hc := Lib.cells_of_tab Tryz.underlying107 Tryz.underlying88 (by kernel_rfl) (by kernel_rfl) h4
    unfold World.var? at h3
    rw [h1] at h3
    simp only [Option.bind_some] at h3
    cases hb : W.heap[(Tryz.lays173_ren.g 17)]? with
    | none => rw [hb] at h3; cases h3
    | some o =>
      rw [hb] at h3
      cases o <;> simp only [reduceCtorEq, Option.some.injEq] at h3
      rename_i c ty fr
      subst h3
      refine ⟨ty, fr, ?_⟩
      show W.heap[(Tryz.lays173_ren.g 17)]? = _
      rw [hb, ← hc]
  | i + 1, (n, d) :: r, ps, ⟨g, t, cs, fuel, p, q, h1, h2, h3, h4, h5, h6⟩, hi => pow_laid hg i h5 (by simpa using hi)
theorem pow_met {W : World} {name : String} {l : List (String × DataW Unit)} (h : laidMet Tryz.prog l W) (i : Nat) (hi : l[i]? = some (name, Lib.tabData .u64 Lib.pow10Tab)) (hg : Tryz.prog.globalNamed name = some (Tryz.lays173_ren.g 17)) : PowT (ctxOf W) := by
  obtain ⟨ps, h1, _⟩ := h
  exact pow_laid hg i h1 hi
end Sx
end

noncomputable section
set_option linter.unusedVariables false
set_option linter.unusedSimpArgs false
namespace Sx
open Go
inductive V where
  | mk (k n : Int) (s : Str) (l : List V)

namespace V
def k : V → Int | .mk k _ _ _ => k
def n : V → Int | .mk _ n _ _ => n
def s : V → Str | .mk _ _ s _ => s
def l : V → List V | .mk _ _ _ l => l
end V
mutual
def vsize : V → Nat
  | .mk _ _ _ l => vsizes l + 1
def vsizes : List V → Nat
  | [] => 0
  | v :: l => vsize v + vsizes l
end
theorem vsize_mem : ∀ {l : List V} {v : V}, v ∈ l → vsize v ≤ vsizes l
  | w :: l, v, h => by
    simp only [vsizes]
    rcases List.mem_cons.1 h with rfl | h
    · omega
    · have := vsize_mem h; omega
theorem vsize_l {v w : V} (h : w ∈ v.l) : vsize w < vsize v := by
  obtain ⟨k, n, s, l⟩ := v
  have := vsize_mem (show w ∈ l from h)
  simp only [vsize]; omega
/-- by how great a value is -/
theorem V.rec_ {P : V → Prop} (h : ∀ v, (∀ w ∈ v.l, P w) → P v) (v : V) : P v := by
  have : ∀ n v, vsize v ≤ n → P v := by
    intro n
    induction n with
    | zero => intro v hv; obtain ⟨k, n, s, l⟩ := v; simp [vsize] at hv
    | succ n ih => intro v hv; exact h v fun w hw => ih w (by have := vsize_l hw; omega)
  exact this _ v (Nat.le_refl _)

mutual
def dep : V → Nat
  | .mk _ _ _ l => deps l + 1
def deps : List V → Nat
  | [] => 0
  | v :: l => max (dep v) (deps l)
end
theorem dep_eq (v : V) : dep v = deps v.l + 1 := by obtain ⟨k, n, s, l⟩ := v; rfl
theorem deps_append : ∀ (a b : List V), deps (a ++ b) = max (deps a) (deps b)
  | [], b => by simp [deps]
  | v :: a, b => by simp only [List.cons_append, deps, deps_append a b]; omega
theorem deps_take {l : List V} {i : Nat} (h : i < l.length) : deps (l.take (i + 1)) = max (deps (l.take i)) (dep l[i]) := by
  rw [List.take_add_one, List.getElem?_eq_getElem h, Option.toList_some, deps_append]; simp [deps]
theorem deps_le : ∀ {l : List V} {v : V}, v ∈ l → dep v ≤ deps l
  | w :: l, v, h => by
    simp only [deps]
    rcases List.mem_cons.1 h with rfl | h
    · omega
    · have := deps_le h; omega
theorem dep_le_size (v : V) : dep v ≤ vsize v := by
  have h : ∀ (l : List V), (∀ w ∈ l, dep w ≤ vsize w) → deps l ≤ vsizes l := by
    intro l
    induction l with
    | nil => intro _; simp [deps]
    | cons v l ih =>
      intro h
      have h1 := h v (List.mem_cons_self ..)
      have h2 := ih fun w hw => h w (List.mem_cons_of_mem _ hw)
      simp only [deps, vsizes]; omega
  refine V.rec_ (P := fun v => dep v ≤ vsize v) (fun v ih => ?_) v
  obtain ⟨k, n, s, l⟩ := v
  have := h l ih
  simp only [dep, vsize]; omega

def lowC (c : UInt8) : Bool := decide (97 ≤ c.toNat) && decide (c.toNat ≤ 122)
def nameC (c : UInt8) : Bool := lowC c || (decide (65 ≤ c.toNat) && decide (c.toNat ≤ 90)) || (decide (48 ≤ c.toNat) && decide (c.toNat ≤ 57)) || decide (c.toNat = 95)
def nameS (s : Str) : Bool := !s.isEmpty && decide (s.length ≤ 32) && lowC (s.headD 0) && s.all nameC
def digC (c : UInt8) : Bool := decide (48 ≤ c.toNat) && decide (c.toNat ≤ 57)
def cutD : Str → Option (Str × Str)
  | [] => none
  | c :: t => if c = 46 then some ([], t) else (cutD t).map fun p => (c :: p.1, p.2)
theorem cutD_at : ∀ (a b : Str), (46 : UInt8) ∉ a → cutD (a ++ 46 :: b) = some (a, b)
  | [], b, _ => by simp [cutD]
  | c :: a, b, h => by
    have h1 : c ≠ 46 := fun e => h (by rw [e]; exact List.mem_cons_self ..)
    simp only [List.cons_append, cutD, if_neg h1, cutD_at a b fun hh => h (List.mem_cons_of_mem _ hh)]; rfl
theorem cutD_no : ∀ (a : Str), (46 : UInt8) ∉ a → cutD a = none
  | [], _ => rfl
  | c :: a, h => by
    have h1 : c ≠ 46 := fun e => h (by rw [e]; exact List.mem_cons_self ..)
    simp only [cutD, if_neg h1, cutD_no a fun hh => h (List.mem_cons_of_mem _ hh)]; rfl
theorem cutD_mem : ∀ (s : Str), (46 : UInt8) ∈ s → ∃ a b, s = a ++ 46 :: b ∧ 46 ∉ a
  | c :: s, h => by
    by_cases hc : c = 46
    · exact ⟨[], s, by rw [hc]; rfl, by simp⟩
    · obtain ⟨a, b, h1, h2⟩ := cutD_mem s (by simpa [Ne.symm hc] using h)
      exact ⟨c :: a, b, by rw [h1]; rfl, by simp [h2, Ne.symm hc]⟩
def trueS : Str := [116, 114, 117, 101]
def falseS : Str := [102, 97, 108, 115, 101]
def namesS (s : Str) : Bool := if s = trueS ∨ s = falseS then false else match cutD s with
  | some (a, b) => nameS a && nameS b
  | none => nameS s
def unmin (s : Str) : Str := if s.head? = some 45 then s.tail else s
def numS (s : Str) : Bool := !(unmin s).isEmpty && (unmin s).all digC && !(decide ((unmin s).head? = some 48) && decide (s ≠ [48]))
def digits (s : Str) : Nat := (unmin s).length

def okN (k n : Int) (s : Str) (m : Nat) : Bool :=
  if k = 1 then (n == 0 || n == 1) && s.isEmpty && decide (m = 0)
  else if k = 2 then s.isEmpty && decide (m = 0)
  else if k = 3 then numS s && n == 0 && decide (m = 0)
  else if k = 4 then n == 0 && decide (m = 0)
  else if k = 5 then n == 0 && s.isEmpty && decide (m ≠ 1)
  else if k = 6 then n == 0 && namesS s
  else false
def fitN (k : Int) (s : Str) (m : Nat) : Bool :=
  if k = 3 then decide (digits s ≤ 200)
  else if k = 4 then decide (s.length ≤ 4096)
  else if k = 5 then decide (m ≤ 16)
  else if k = 6 then decide (m ≤ 8)
  else true
mutual
def formV : V → Bool
  | .mk k n s l => okN k n s l.length && formVs l
def formVs : List V → Bool
  | [] => true
  | v :: l => formV v && formVs l
end
mutual
def fitsV : V → Bool
  | .mk k n s l => fitN k s l.length && fitsVs l
def fitsVs : List V → Bool
  | [] => true
  | v :: l => fitsV v && fitsVs l
end
theorem formV_eq (v : V) : formV v = (okN v.k v.n v.s v.l.length && formVs v.l) := by obtain ⟨k, n, s, l⟩ := v; rfl
theorem fitsV_eq (v : V) : fitsV v = (fitN v.k v.s v.l.length && fitsVs v.l) := by obtain ⟨k, n, s, l⟩ := v; rfl
theorem formVs_append : ∀ (a b : List V), formVs (a ++ b) = (formVs a && formVs b)
  | [], b => by simp [formVs]
  | v :: a, b => by simp only [List.cons_append, formVs, formVs_append a b, Bool.and_assoc]
theorem fitsVs_append : ∀ (a b : List V), fitsVs (a ++ b) = (fitsVs a && fitsVs b)
  | [], b => by simp [fitsVs]
  | v :: a, b => by simp only [List.cons_append, fitsVs, fitsVs_append a b, Bool.and_assoc]
theorem formVs_take {l : List V} {i : Nat} (h : i < l.length) : formVs (l.take (i + 1)) = (formVs (l.take i) && formV l[i]) := by
  rw [List.take_add_one, List.getElem?_eq_getElem h, Option.toList_some, formVs_append]; simp [formVs]
theorem fitsVs_take {l : List V} {i : Nat} (h : i < l.length) : fitsVs (l.take (i + 1)) = (fitsVs (l.take i) && fitsV l[i]) := by
  rw [List.take_add_one, List.getElem?_eq_getElem h, Option.toList_some, fitsVs_append]; simp [fitsVs]
theorem formVs_false : ∀ {l : List V} {v : V}, v ∈ l → formV v = false → formVs l = false
  | w :: l, v, h, hv => by
    simp only [formVs]
    rcases List.mem_cons.1 h with rfl | h
    · rw [hv]; rfl
    · rw [formVs_false h hv, Bool.and_false]
theorem formVs_mem : ∀ {l : List V} {v : V}, v ∈ l → formVs l = true → formV v = true := fun h hl => by
  cases hv : formV _ with
  | true => rfl
  | false => rw [formVs_false h hv] at hl; cases hl
def checkV (v : V) : Int := if dep v > 64 then 65 else if formV v = false then 4 else if fitsV v = false then 40 else 0
def mayV (v : V) : Bool := decide (checkV v = 0)
theorem mayV_iff (v : V) : mayV v = true ↔ dep v ≤ 64 ∧ formV v = true ∧ fitsV v = true := by
  unfold mayV checkV
  rw [decide_eq_true_eq]
  by_cases h1 : dep v > 64
  · simp [h1]; omega
  · rw [if_neg h1]
    cases hf : formV v <;> cases hg : fitsV v <;> simp <;> omega

def sgn (a b : Int) : Int := if a < b then -1 else if b < a then 1 else 0
def vcmpS : Str → Str → Int
  | [], [] => 0
  | [], _ :: _ => -1
  | _ :: _, [] => 1
  | a :: s, b :: t => if a = b then vcmpS s t else sgn a.toNat b.toNat
/-- of whole numbers without their signs -/
def cmpD (a b : Str) : Int := if a.length = b.length then vcmpS a b else sgn a.length b.length
def isMin (s : Str) : Bool := decide (s.head? = some 45)
def cmpB (a b : Str) : Int := if isMin a then (if isMin b then cmpD b.tail a.tail else -1) else if isMin b then 1 else cmpD a b
mutual
def cmpV : V → V → Int
  | .mk k n s l, .mk k' n' s' l' =>
    if k ≠ k' then sgn k k'
    else if k = 3 then cmpB s s'
    else if k = 4 then vcmpS s s'
    else if k = 5 then cmpVs l l'
    else if k = 6 then (if vcmpS s s' ≠ 0 then vcmpS s s' else cmpVs l l')
    else sgn n n'
def cmpVs : List V → List V → Int
  | [], [] => 0
  | [], _ :: _ => -1
  | _ :: _, [] => 1
  | v :: l, w :: m => if cmpV v w ≠ 0 then cmpV v w else cmpVs l m
end
def lastB (a b : Bool) : Int := if a = b then 0 else if a then -1 else 1
def cmpA (v w : V) : Int := if mayV v = true ∧ mayV w = true then cmpV v w else lastB (mayV v) (mayV w)
def mayR (l : List V) : Bool := l.all mayV
def cmpR (l m : List V) : Int := if mayR l = true ∧ mayR m = true then cmpVs l m else lastB (mayR l) (mayR m)

mutual
def sameV : V → V → Bool
  | .mk k n s l, .mk k' n' s' l' => k == k' && n == n' && decide (s = s') && sameVs l l'
def sameVs : List V → List V → Bool
  | [], [] => true
  | v :: l, w :: m => sameV v w && sameVs l m
  | _, _ => false
end
theorem sameVs_eq (h : ∀ v w : V, sameV v w = true → v = w) : ∀ {l m : List V}, sameVs l m = true → l = m
  | [], [], _ => rfl
  | [], _ :: _, h' => by simp [sameVs] at h'
  | _ :: _, [], h' => by simp [sameVs] at h'
  | v :: l, w :: m, h' => by
    simp only [sameVs, Bool.and_eq_true] at h'
    rw [h v w h'.1, sameVs_eq h h'.2]
theorem sameV_eq {v w : V} (h : sameV v w = true) : v = w := by
  have key : ∀ v : V, ∀ w, sameV v w = true → v = w := by
    refine V.rec_ (P := fun v => ∀ w, sameV v w = true → v = w) fun v ih w h => ?_
    obtain ⟨k, n, s, l⟩ := v
    obtain ⟨k', n', s', l'⟩ := w
    simp only [sameV, Bool.and_eq_true, beq_iff_eq, decide_eq_true_eq] at h
    obtain ⟨⟨⟨rfl, rfl⟩, rfl⟩, h⟩ := h
    have : ∀ (l m : List V), (∀ v ∈ l, ∀ w, sameV v w = true → v = w) → sameVs l m = true → l = m := by
      intro l
      induction l with
      | nil => intro m _ h; cases m with
        | nil => rfl
        | cons _ _ => simp [sameVs] at h
      | cons v l ihl =>
        intro m hh h
        cases m with
        | nil => simp [sameVs] at h
        | cons w m =>
          simp only [sameVs, Bool.and_eq_true] at h
          rw [hh v (List.mem_cons_self ..) w h.1, ihl m (fun v hv => hh v (List.mem_cons_of_mem _ hv)) h.2]
    rw [this l l' ih h]
  exact key v w h
mutual
theorem sameV_refl : ∀ v : V, sameV v v = true
  | .mk k n s l => by simp [sameV, sameVs_refl l]
theorem sameVs_refl : ∀ l : List V, sameVs l l = true
  | [] => rfl
  | v :: l => by simp [sameVs, sameV_refl v, sameVs_refl l]
end
theorem sameVs_iff {l m : List V} : sameVs l m = true ↔ l = m := ⟨sameVs_eq fun _ _ => sameV_eq, fun h => h ▸ sameVs_refl l⟩
end Sx
end

