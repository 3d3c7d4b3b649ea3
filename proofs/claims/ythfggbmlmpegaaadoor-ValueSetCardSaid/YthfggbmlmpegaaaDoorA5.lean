/-
  Texts of this family, one behind the other: Sh3, Sh, EvB.
-/
import Derived.Test.YthfggbmlmpegaaaDoorA4
noncomputable section
set_option linter.unusedVariables false
set_option maxRecDepth 100000
namespace Sx
open Go Go.Proofs
def sh_slices_IndexFunc_api_Value_api_Value (C : Ctx) (p_s : Sl) (p_f : Value) (K : Int → Heap → Prop) (H : Heap) : Prop :=
  lp (α := Int) 0 H (fun x1 J2 H3 =>
 ift (decide ((x1 : Int) < (Sl.len p_s : Int)))
 (ixa p_s x1 fun p5 =>
 ldT H3 T_api_Value.c (p5.1, p5.2 + (x1 : Int).toNat * 4) fun x10 =>
 callU Tryd.prog C p_f [.agg (T_api_Value.c x10).toArray] H3 (fun v H13 => ∃ (r12 : Bool), v = .bool r12 ∧
 ift r12
 (K x1 H13)
 (J2 (w .i64 (x1 + 1)) H13)))
 (K (-1) H3))

theorem ad_slices_IndexFunc_api_Value_api_Value (C : Ctx) (p_s : Sl) (p_f : Value) (K : Int → Heap → Prop) (H : Heap) (h : sh_slices_IndexFunc_api_Value_api_Value C p_s p_f K H) : c_slices_IndexFunc_api_Value_api_Value C p_s p_f K H := by
  refine Spec.enter Tryd.func61 rfl Tryd.ntmps61 rfl ?_
  refine GC.sub [(0, slv p_s), (1, p_f)] ⟨rfl, rfl, trivial⟩ ?_
  refine GC.seq ?_
  refine GC.region ?_
  refine GL.val trivial rfl (OV.assign (v := .int .i64 0) rfl) ?_
  refine GL.nil ?_
  refine GC.seq ?_
  refine GC.seq ?_
  refine GC.region ?_
  refine GL.val trivial rfl (OV.move (v := slv p_s) rfl) ?_
  refine GL.val trivial rfl (OV.lenSl (s := p_s) rfl rfl) ?_
  refine GL.val trivial rfl (OV.move (v := .int .i64 0) rfl) ?_
  refine GL.nil ?_
  refine GC.block ?_
  refine GC.loop (α := Int) h (fun x1 => [(8, .int .i64 x1), (0, slv p_s), (1, p_f), (7, .int .i64 (Sl.len p_s : Int))]) ⟨rfl, rfl, rfl, rfl, trivial⟩ ?_
  intro x1 H3 J2 h
  refine GC.seq ?_
  refine GC.region ?_
  refine GL.val trivial rfl (OV.ibin (v := .bool (decide ((x1 : Int) < (Sl.len p_s : Int)))) rfl rfl rfl) ?_
  refine GL.nil ?_
  refine GC.seq ?_
  refine GC.cond (b := decide ((x1 : Int) < (Sl.len p_s : Int))) rfl (fun hc4 => ?_) (fun hc4 => ?_)
  · replace h := And.left h hc4
    refine GC.skip ?_
    refine GC.seq ?_
    refine GC.block ?_
    refine GC.seq ?_
    refine GC.region ?_
    refine GL.val trivial rfl (OV.move (v := .int .i64 x1) rfl) ?_
    refine GL.val trivial rfl (OV.assign (v := .int .i64 x1) rfl) ?_
    refine GL.nil ?_
    refine GC.seq ?_
    refine GC.region ?_
    refine GL.val trivial rfl (OV.move (v := p_f) rfl) ?_
    refine GL.val trivial rfl (OV.move (v := slv p_s) rfl) ?_
    refine GL.val trivial rfl (OV.move (v := .int .i64 x1) rfl) ?_
    obtain ⟨p5, ha6, hb7, hc8, hd9, h⟩ := h
    refine GL.val trivial rfl (OV.indexAddr (s := p_s) rfl rfl rfl rfl ha6 hb7 hc8 hd9) ?_
    obtain ⟨x10, hr11, h⟩ := h
    refine GL.val trivial rfl (OV.loadT (p := (p5.1, p5.2 + (x1 : Int).toNat * 4)) (cs := T_api_Value.c x10) rfl rfl rfl hr11) ?_
    refine GL.callU (xv := p_f) (vs := [.agg (T_api_Value.c x10).toArray]) h trivial rfl rfl rfl ?_
    rintro _ H13 ⟨r12, rfl, h⟩
    refine GL.nil ?_
    refine GC.cond (b := r12) rfl (fun hc14 => ?_) (fun hc14 => ?_)
    · replace h := And.left h hc14
      refine GC.seq ?_
      refine GC.region ?_
      refine GL.val trivial rfl (OV.move (v := .int .i64 x1) rfl) ?_
      refine GL.val trivial rfl (OV.assign (v := .int .i64 x1) rfl) ?_
      refine GL.nil ?_
      exact GC.ret (fun _ _ hf hs => post_tmp1 rfl rfl hf hs ⟨x1, rfl, h⟩)
    · replace h := And.right h hc14
      refine GC.skip_to (fun _ _ h => h) ?_
      refine GC.region ?_
      refine GL.val trivial rfl (OV.ibin (v := .int .i64 (w .i64 (x1 + 1))) rfl rfl rfl) ?_
      refine GL.val trivial rfl (OV.move (v := .int .i64 (w .i64 (x1 + 1))) rfl) ?_
      exact GL.jump (fun _ _ h => h) (w .i64 (x1 + 1)) h ⟨rfl, rfl, rfl, rfl, trivial⟩
  · replace h := And.right h hc4
    refine GC.exit_to (fun _ _ h => h) ?_
    refine GC.seq ?_
    refine GC.region ?_
    refine GL.val trivial rfl (OV.assign (v := .int .i64 (-1)) rfl) ?_
    refine GL.nil ?_
    exact GC.ret (fun _ _ hf hs => post_tmp1 rfl rfl hf hs ⟨(-1), rfl, h⟩)

def sh_cmp_Compare_uint8 (C : Ctx) (p_x : Int) (p_y : Int) (K : Int → Heap → Prop) (H : Heap) : Prop :=
  c_cmp_isNaN_uint8 C p_x (fun r1 H2 =>
 c_cmp_isNaN_uint8 C p_y (fun r3 H4 =>
 ift r1
 (ift r3
 (K 0 H4)
 (K (-1) H4))
 (ift r3
 (K 1 H4)
 (ift (decide ((p_x : Int) < p_y))
 (K (-1) H4)
 (ift (decide ((p_x : Int) > p_y))
 (K 1 H4)
 (K 0 H4))))) H2) H

theorem ad_cmp_Compare_uint8 (C : Ctx) (p_x : Int) (p_y : Int) (K : Int → Heap → Prop) (H : Heap) (h : sh_cmp_Compare_uint8 C p_x p_y K H) : c_cmp_Compare_uint8 C p_x p_y K H := by
  refine Spec.enter Tryd.func62 rfl Tryd.ntmps62 rfl ?_
  refine GC.sub [(0, .int .u8 p_x), (1, .int .u8 p_y)] ⟨rfl, rfl, trivial⟩ ?_
  refine GC.seq ?_
  refine GC.region ?_
  refine GL.val trivial rfl (OV.assign (v := .int .i64 0) rfl) ?_
  refine GL.nil ?_
  refine GC.seq ?_
  refine GC.region ?_
  refine GL.val trivial rfl (OV.move (v := .int .u8 p_x) rfl) ?_
  refine GL.call h trivial rfl ok_cmp_isNaN_uint8 (vs := [.int .u8 p_x]) rfl ?_
  rintro _ H2 ⟨r1, rfl, h⟩
  refine GL.val trivial rfl (OV.assign (v := .bool r1) rfl) ?_
  refine GL.nil ?_
  refine GC.seq ?_
  refine GC.region ?_
  refine GL.val trivial rfl (OV.move (v := .int .u8 p_y) rfl) ?_
  refine GL.call h trivial rfl ok_cmp_isNaN_uint8 (vs := [.int .u8 p_y]) rfl ?_
  rintro _ H4 ⟨r3, rfl, h⟩
  refine GL.val trivial rfl (OV.assign (v := .bool r3) rfl) ?_
  refine GL.nil ?_
  refine GC.seq ?_
  refine GC.seq ?_
  refine GC.region ?_
  refine GL.val trivial rfl (OV.move (v := .bool r1) rfl) ?_
  refine GL.nil ?_
  refine GC.cond (b := r1) rfl (fun hc5 => ?_) (fun hc5 => ?_)
  · replace h := And.left h hc5
    refine GC.seq ?_
    refine GC.seq ?_
    refine GC.region ?_
    refine GL.val trivial rfl (OV.move (v := .bool r3) rfl) ?_
    refine GL.nil ?_
    refine GC.cond (b := r3) rfl (fun hc6 => ?_) (fun hc6 => ?_)
    · replace h := And.left h hc6
      refine GC.seq ?_
      refine GC.region ?_
      refine GL.val trivial rfl (OV.assign (v := .int .i64 0) rfl) ?_
      refine GL.nil ?_
      exact GC.ret (fun _ _ hf hs => post_tmp1 rfl rfl hf hs ⟨0, rfl, h⟩)
    · replace h := And.right h hc6
      refine GC.skip ?_
      refine GC.seq ?_
      refine GC.region ?_
      refine GL.val trivial rfl (OV.assign (v := .int .i64 (-1)) rfl) ?_
      refine GL.nil ?_
      exact GC.ret (fun _ _ hf hs => post_tmp1 rfl rfl hf hs ⟨(-1), rfl, h⟩)
  · replace h := And.right h hc5
    refine GC.skip ?_
    refine GC.seq ?_
    refine GC.seq ?_
    refine GC.region ?_
    refine GL.val trivial rfl (OV.move (v := .bool r3) rfl) ?_
    refine GL.nil ?_
    refine GC.cond (b := r3) rfl (fun hc7 => ?_) (fun hc7 => ?_)
    · replace h := And.left h hc7
      refine GC.seq ?_
      refine GC.region ?_
      refine GL.val trivial rfl (OV.assign (v := .int .i64 1) rfl) ?_
      refine GL.nil ?_
      exact GC.ret (fun _ _ hf hs => post_tmp1 rfl rfl hf hs ⟨1, rfl, h⟩)
    · replace h := And.right h hc7
      refine GC.skip ?_
      refine GC.seq ?_
      refine GC.seq ?_
      refine GC.region ?_
      refine GL.val trivial rfl (OV.move (v := .int .u8 p_x) rfl) ?_
      refine GL.val trivial rfl (OV.move (v := .int .u8 p_y) rfl) ?_
      refine GL.val trivial rfl (OV.ibin (v := .bool (decide ((p_x : Int) < p_y))) rfl rfl rfl) ?_
      refine GL.nil ?_
      refine GC.cond (b := decide ((p_x : Int) < p_y)) rfl (fun hc8 => ?_) (fun hc8 => ?_)
      · replace h := And.left h hc8
        refine GC.seq ?_
        refine GC.region ?_
        refine GL.val trivial rfl (OV.assign (v := .int .i64 (-1)) rfl) ?_
        refine GL.nil ?_
        exact GC.ret (fun _ _ hf hs => post_tmp1 rfl rfl hf hs ⟨(-1), rfl, h⟩)
      · replace h := And.right h hc8
        refine GC.skip ?_
        refine GC.seq ?_
        refine GC.seq ?_
        refine GC.region ?_
        refine GL.val trivial rfl (OV.move (v := .int .u8 p_x) rfl) ?_
        refine GL.val trivial rfl (OV.move (v := .int .u8 p_y) rfl) ?_
        refine GL.val trivial rfl (OV.ibin (v := .bool (decide ((p_x : Int) > p_y))) rfl rfl rfl) ?_
        refine GL.nil ?_
        refine GC.cond (b := decide ((p_x : Int) > p_y)) rfl (fun hc9 => ?_) (fun hc9 => ?_)
        · replace h := And.left h hc9
          refine GC.seq ?_
          refine GC.region ?_
          refine GL.val trivial rfl (OV.assign (v := .int .i64 1) rfl) ?_
          refine GL.nil ?_
          exact GC.ret (fun _ _ hf hs => post_tmp1 rfl rfl hf hs ⟨1, rfl, h⟩)
        · replace h := And.right h hc9
          refine GC.skip ?_
          refine GC.seq ?_
          refine GC.region ?_
          refine GL.val trivial rfl (OV.assign (v := .int .i64 0) rfl) ?_
          refine GL.nil ?_
          exact GC.ret (fun _ _ hf hs => post_tmp1 rfl rfl hf hs ⟨0, rfl, h⟩)

def sh_value_bigs (C : Ctx) (p_a : Str) (p_b : Str) (K : Int → Heap → Prop) (H : Heap) : Prop :=
  c_strings_HasPrefix C p_a [45] (fun r1 H2 =>
 c_strings_HasPrefix C p_b [45] (fun r3 H4 =>
 ift (r1 && r3)
 (dr H4 fun Hs7 =>
 slS p_b 1 (List.length p_b : Int) fun t9 =>
 slS p_a 1 (List.length p_a : Int) fun t15 =>
 c_value_bigs C t9 t15 (fun r22 H23 =>
 Heap.le Hs7 H23 ∧
 K r22 H23) H4)
 (ift r1
 (K (-1) H4)
 (ift r3
 (K 1 H4)
 (c_cmp_Compare_int C (List.length p_a : Int) (List.length p_b : Int) (fun r26 H27 =>
 c_cmp_Compare_string C p_a p_b (fun r28 H29 =>
 nw ([.int .i64 r26, .int .i64 r28]) (fun b30 H31 =>
 c_cmp_Or_int C (Sl.of (some (b30, 0)) 2 2) (fun r32 H33 =>
 K r32 H33) H31) H29) H27) H4)))) H2) H

theorem ad_value_bigs (C : Ctx) (p_a : Str) (p_b : Str) (K : Int → Heap → Prop) (H : Heap) (h : sh_value_bigs C p_a p_b K H) : c_value_bigs C p_a p_b K H := by
  refine Spec.enter Tryd.func63 rfl Tryd.ntmps63 rfl ?_
  refine GC.sub [(0, sv p_a), (1, sv p_b)] ⟨rfl, rfl, trivial⟩ ?_
  refine GC.seq ?_
  refine GC.region ?_
  refine GL.val trivial rfl (OV.assign (v := .int .i64 0) rfl) ?_
  refine GL.nil ?_
  refine GC.seq ?_
  refine GC.region ?_
  refine GL.val trivial rfl (OV.move (v := sv p_a) rfl) ?_
  refine GL.call h trivial rfl ok_strings_HasPrefix (vs := [sv p_a, sv [45]]) rfl ?_
  rintro _ H2 ⟨r1, rfl, h⟩
  refine GL.val trivial rfl (OV.move (v := sv p_b) rfl) ?_
  refine GL.call h trivial rfl ok_strings_HasPrefix (vs := [sv p_b, sv [45]]) rfl ?_
  rintro _ H4 ⟨r3, rfl, h⟩
  refine GL.val trivial rfl (OV.assign (v := .bool r1) rfl) ?_
  refine GL.val trivial rfl (OV.assign (v := .bool r3) rfl) ?_
  refine GL.nil ?_
  refine GC.seq ?_
  refine GC.block ?_
  refine GC.seq ?_
  refine GC.region ?_
  refine GL.val trivial rfl (OV.move (v := .bool r1) rfl) ?_
  refine GL.val trivial rfl (OV.move (v := .bool r1) rfl) ?_
  refine GL.cut0 2 [(15, .bool (r1 && r3)), (0, sv p_a), (1, sv p_b), (5, .bool r1), (6, .bool r3)] ?_ ?_
  · rcases Bool.eq_false_or_eq_true r1 with hc5 | hc5
    · skip
      refine GL.val ⟨_, _, rfl, rfl, hc5⟩ rfl (OV.move (v := .bool r3) rfl) ?_
      refine GL.val trivial rfl (OV.pickT (b := r1) (v := .bool r3) rfl hc5 rfl) ?_
      exact GL.jump0 (fun _ _ h => h) () rfl ⟨(by rw [hc5]; rfl), rfl, rfl, rfl, rfl, trivial⟩
    · skip
      refine GL.skip ⟨_, rfl, .inl ⟨_, rfl, hc5⟩⟩ rfl ?_
      refine GL.val trivial rfl (OV.pickF (b := r1) (v := .bool false) rfl hc5 rfl) ?_
      exact GL.jump0 (fun _ _ h => h) () rfl ⟨(by rw [hc5]; rfl), rfl, rfl, rfl, rfl, trivial⟩
  refine GL.val trivial rfl (OV.assign (v := .bool (r1 && r3)) rfl) ?_
  refine GL.nil ?_
  refine GC.cond (b := r1 && r3) rfl (fun hc6 => ?_) (fun hc6 => ?_)
  · replace h := And.left h hc6
    refine GC.seq ?_
    obtain ⟨Hs7, hle8, h⟩ := h
    refine GC.any (Hs := Hs7) (by kernel_rfl) hle8 ?_
    refine GA.take 0 rfl (by kernel_rfl) (by kernel_rfl) (by kernel_rfl) (fun _ _ _ h => False.elim h) trivial rfl (OV.move (v := sv p_b) rfl) ?_
    obtain ⟨h10, h11, h12, t9, h13, h⟩ := h
    refine GA.take 1 rfl (by kernel_rfl) (by kernel_rfl) (by kernel_rfl) (fun _ _ _ h => False.elim h) trivial rfl (OV.sliceStr (s := p_b) h10 h11 h12 h13 rfl rfl rfl rfl rfl rfl) ?_
    refine GA.take 2 rfl (by kernel_rfl) (by kernel_rfl) (by kernel_rfl) (fun _ _ _ h => False.elim h) trivial rfl (OV.move (v := sv p_a) rfl) ?_
    obtain ⟨h16, h17, h18, t15, h19, h⟩ := h
    refine GA.take 3 rfl (by kernel_rfl) (by kernel_rfl) (by kernel_rfl) (fun _ _ _ h => False.elim h) trivial rfl (OV.sliceStr (s := p_a) h16 h17 h18 h19 rfl rfl rfl rfl rfl rfl) ?_
    refine GA.eff 4 rfl (by kernel_rfl) ?_
    refine GL.call h trivial rfl ok_value_bigs (vs := [sv t9, sv t15]) rfl ?_
    rintro _ H23 ⟨r22, rfl, h⟩
    obtain ⟨hle21, h⟩ := h
    refine GA.back hle21 ?_
    refine GA.take 5 rfl (by kernel_rfl) (by kernel_rfl) (by kernel_rfl) (fun _ _ _ h => False.elim h) trivial rfl (OV.assign (v := .int .i64 r22) rfl) ?_
    refine GA.done (by kernel_rfl) ?_
    refine GL.nil ?_
    exact GC.ret (fun _ _ hf hs => post_tmp1 rfl rfl hf hs ⟨r22, rfl, h⟩)
  · replace h := And.right h hc6
    refine GC.seq ?_
    refine GC.region ?_
    refine GL.val trivial rfl (OV.move (v := .bool r1) rfl) ?_
    refine GL.val trivial rfl (OV.assign (v := .bool r1) rfl) ?_
    refine GL.nil ?_
    refine GC.cond (b := r1) rfl (fun hc24 => ?_) (fun hc24 => ?_)
    · replace h := And.left h hc24
      refine GC.seq ?_
      refine GC.region ?_
      refine GL.val trivial rfl (OV.assign (v := .int .i64 (-1)) rfl) ?_
      refine GL.nil ?_
      exact GC.ret (fun _ _ hf hs => post_tmp1 rfl rfl hf hs ⟨(-1), rfl, h⟩)
    · replace h := And.right h hc24
      refine GC.seq ?_
      refine GC.region ?_
      refine GL.val trivial rfl (OV.move (v := .bool r3) rfl) ?_
      refine GL.val trivial rfl (OV.assign (v := .bool r3) rfl) ?_
      refine GL.nil ?_
      refine GC.cond (b := r3) rfl (fun hc25 => ?_) (fun hc25 => ?_)
      · replace h := And.left h hc25
        refine GC.seq ?_
        refine GC.region ?_
        refine GL.val trivial rfl (OV.assign (v := .int .i64 1) rfl) ?_
        refine GL.nil ?_
        exact GC.ret (fun _ _ hf hs => post_tmp1 rfl rfl hf hs ⟨1, rfl, h⟩)
      · replace h := And.right h hc25
        refine GC.skip_to (fun _ _ h => h) ?_
        refine GC.seq ?_
        refine GC.region ?_
        refine GL.val trivial rfl (OV.move (v := sv p_a) rfl) ?_
        refine GL.val trivial rfl (OV.lenStr (s := p_a) rfl rfl) ?_
        refine GL.val trivial rfl (OV.move (v := sv p_b) rfl) ?_
        refine GL.val trivial rfl (OV.lenStr (s := p_b) rfl rfl) ?_
        refine GL.call h trivial rfl ok_cmp_Compare_int (vs := [.int .i64 (List.length p_a : Int), .int .i64 (List.length p_b : Int)]) rfl ?_
        rintro _ H27 ⟨r26, rfl, h⟩
        refine GL.val trivial rfl (OV.move (v := sv p_a) rfl) ?_
        refine GL.val trivial rfl (OV.move (v := sv p_b) rfl) ?_
        refine GL.call h trivial rfl ok_cmp_Compare_string (vs := [sv p_a, sv p_b]) rfl ?_
        rintro _ H29 ⟨r28, rfl, h⟩
        refine GL.buildSlice (cs := [.int .i64 r26, .int .i64 r28]) h trivial rfl (vs := [(0, .int .i64 r26), (1, .int .i64 r28)]) rfl ⟨3, fun _ => by kernel_rfl⟩ ?_
        intro b30 H31 h
        refine GL.call h trivial rfl ok_cmp_Or_int (vs := [slv (Sl.of (some (b30, 0)) 2 2)]) rfl ?_
        rintro _ H33 ⟨r32, rfl, h⟩
        refine GL.val trivial rfl (OV.assign (v := .int .i64 r32) rfl) ?_
        refine GL.nil ?_
        exact GC.ret (fun _ _ hf hs => post_tmp1 rfl rfl hf hs ⟨r32, rfl, h⟩)

def sh_cmp_Compare_string (C : Ctx) (p_x : Str) (p_y : Str) (K : Int → Heap → Prop) (H : Heap) : Prop :=
  c_cmp_isNaN_string C p_x (fun r1 H2 =>
 c_cmp_isNaN_string C p_y (fun r3 H4 =>
 ift r1
 (ift r3
 (K 0 H4)
 (K (-1) H4))
 (ift r3
 (K 1 H4)
 (ift (slt p_x p_y)
 (K (-1) H4)
 (ift (!(slt p_x p_y || (p_x == p_y)))
 (K 1 H4)
 (K 0 H4))))) H2) H

theorem ad_cmp_Compare_string (C : Ctx) (p_x : Str) (p_y : Str) (K : Int → Heap → Prop) (H : Heap) (h : sh_cmp_Compare_string C p_x p_y K H) : c_cmp_Compare_string C p_x p_y K H := by
  refine Spec.enter Tryd.func64 rfl Tryd.ntmps64 rfl ?_
  refine GC.sub [(0, sv p_x), (1, sv p_y)] ⟨rfl, rfl, trivial⟩ ?_
  refine GC.seq ?_
  refine GC.region ?_
  refine GL.val trivial rfl (OV.assign (v := .int .i64 0) rfl) ?_
  refine GL.nil ?_
  refine GC.seq ?_
  refine GC.region ?_
  refine GL.val trivial rfl (OV.move (v := sv p_x) rfl) ?_
  refine GL.call h trivial rfl ok_cmp_isNaN_string (vs := [sv p_x]) rfl ?_
  rintro _ H2 ⟨r1, rfl, h⟩
  refine GL.val trivial rfl (OV.assign (v := .bool r1) rfl) ?_
  refine GL.nil ?_
  refine GC.seq ?_
  refine GC.region ?_
  refine GL.val trivial rfl (OV.move (v := sv p_y) rfl) ?_
  refine GL.call h trivial rfl ok_cmp_isNaN_string (vs := [sv p_y]) rfl ?_
  rintro _ H4 ⟨r3, rfl, h⟩
  refine GL.val trivial rfl (OV.assign (v := .bool r3) rfl) ?_
  refine GL.nil ?_
  refine GC.seq ?_
  refine GC.seq ?_
  refine GC.region ?_
  refine GL.val trivial rfl (OV.move (v := .bool r1) rfl) ?_
  refine GL.nil ?_
  refine GC.cond (b := r1) rfl (fun hc5 => ?_) (fun hc5 => ?_)
  · replace h := And.left h hc5
    refine GC.seq ?_
    refine GC.seq ?_
    refine GC.region ?_
    refine GL.val trivial rfl (OV.move (v := .bool r3) rfl) ?_
    refine GL.nil ?_
    refine GC.cond (b := r3) rfl (fun hc6 => ?_) (fun hc6 => ?_)
    · replace h := And.left h hc6
      refine GC.seq ?_
      refine GC.region ?_
      refine GL.val trivial rfl (OV.assign (v := .int .i64 0) rfl) ?_
      refine GL.nil ?_
      exact GC.ret (fun _ _ hf hs => post_tmp1 rfl rfl hf hs ⟨0, rfl, h⟩)
    · replace h := And.right h hc6
      refine GC.skip ?_
      refine GC.seq ?_
      refine GC.region ?_
      refine GL.val trivial rfl (OV.assign (v := .int .i64 (-1)) rfl) ?_
      refine GL.nil ?_
      exact GC.ret (fun _ _ hf hs => post_tmp1 rfl rfl hf hs ⟨(-1), rfl, h⟩)
  · replace h := And.right h hc5
    refine GC.skip ?_
    refine GC.seq ?_
    refine GC.seq ?_
    refine GC.region ?_
    refine GL.val trivial rfl (OV.move (v := .bool r3) rfl) ?_
    refine GL.nil ?_
    refine GC.cond (b := r3) rfl (fun hc7 => ?_) (fun hc7 => ?_)
    · replace h := And.left h hc7
      refine GC.seq ?_
      refine GC.region ?_
      refine GL.val trivial rfl (OV.assign (v := .int .i64 1) rfl) ?_
      refine GL.nil ?_
      exact GC.ret (fun _ _ hf hs => post_tmp1 rfl rfl hf hs ⟨1, rfl, h⟩)
    · replace h := And.right h hc7
      refine GC.skip ?_
      refine GC.seq ?_
      refine GC.seq ?_
      refine GC.region ?_
      refine GL.val trivial rfl (OV.move (v := sv p_x) rfl) ?_
      refine GL.val trivial rfl (OV.move (v := sv p_y) rfl) ?_
      refine GL.val trivial rfl (OV.sbin (a := p_x) (b := p_y) (v := .bool (slt p_x p_y)) rfl rfl rfl) ?_
      refine GL.nil ?_
      refine GC.cond (b := slt p_x p_y) rfl (fun hc8 => ?_) (fun hc8 => ?_)
      · replace h := And.left h hc8
        refine GC.seq ?_
        refine GC.region ?_
        refine GL.val trivial rfl (OV.assign (v := .int .i64 (-1)) rfl) ?_
        refine GL.nil ?_
        exact GC.ret (fun _ _ hf hs => post_tmp1 rfl rfl hf hs ⟨(-1), rfl, h⟩)
      · replace h := And.right h hc8
        refine GC.skip ?_
        refine GC.seq ?_
        refine GC.seq ?_
        refine GC.region ?_
        refine GL.val trivial rfl (OV.move (v := sv p_x) rfl) ?_
        refine GL.val trivial rfl (OV.move (v := sv p_y) rfl) ?_
        refine GL.val trivial rfl (OV.sbin (a := p_x) (b := p_y) (v := .bool (!(slt p_x p_y || (p_x == p_y)))) rfl rfl rfl) ?_
        refine GL.nil ?_
        refine GC.cond (b := !(slt p_x p_y || (p_x == p_y))) rfl (fun hc9 => ?_) (fun hc9 => ?_)
        · replace h := And.left h hc9
          refine GC.seq ?_
          refine GC.region ?_
          refine GL.val trivial rfl (OV.assign (v := .int .i64 1) rfl) ?_
          refine GL.nil ?_
          exact GC.ret (fun _ _ hf hs => post_tmp1 rfl rfl hf hs ⟨1, rfl, h⟩)
        · replace h := And.right h hc9
          refine GC.skip ?_
          refine GC.seq ?_
          refine GC.region ?_
          refine GL.val trivial rfl (OV.assign (v := .int .i64 0) rfl) ?_
          refine GL.nil ?_
          exact GC.ret (fun _ _ hf hs => post_tmp1 rfl rfl hf hs ⟨0, rfl, h⟩)

def sh_cmp_Or_int (C : Ctx) (p_vals : Sl) (K : Int → Heap → Prop) (H : Heap) : Prop :=
  lp (α := Int) 0 H (fun x1 J2 H3 =>
 ift (decide ((x1 : Int) < (Sl.len p_vals : Int)))
 (ixa p_vals x1 fun p5 =>
 ldI H3 .i64 (p5.1, p5.2 + (x1 : Int).toNat * 1) fun x10 =>
 ift ((x10 : Int) != 0)
 (K x10 H3)
 (J2 (w .i64 (x1 + 1)) H3))
 (K 0 H3))

theorem ad_cmp_Or_int (C : Ctx) (p_vals : Sl) (K : Int → Heap → Prop) (H : Heap) (h : sh_cmp_Or_int C p_vals K H) : c_cmp_Or_int C p_vals K H := by
  refine Spec.enter Tryd.func65 rfl Tryd.ntmps65 rfl ?_
  refine GC.sub [(0, slv p_vals)] ⟨rfl, trivial⟩ ?_
  refine GC.seq ?_
  refine GC.region ?_
  refine GL.val trivial rfl (OV.assign (v := .int .i64 0) rfl) ?_
  refine GL.nil ?_
  refine GC.seq ?_
  refine GC.region ?_
  refine GL.val trivial rfl (OV.assign (v := .int .i64 0) rfl) ?_
  refine GL.nil ?_
  refine GC.seq ?_
  refine GC.seq ?_
  refine GC.region ?_
  refine GL.val trivial rfl (OV.move (v := slv p_vals) rfl) ?_
  refine GL.val trivial rfl (OV.lenSl (s := p_vals) rfl rfl) ?_
  refine GL.val trivial rfl (OV.move (v := .int .i64 0) rfl) ?_
  refine GL.nil ?_
  refine GC.block ?_
  refine GC.loop (α := Int) h (fun x1 => [(8, .int .i64 x1), (3, .int .i64 0), (6, slv p_vals), (7, .int .i64 (Sl.len p_vals : Int))]) ⟨rfl, rfl, rfl, rfl, trivial⟩ ?_
  intro x1 H3 J2 h
  refine GC.seq ?_
  refine GC.region ?_
  refine GL.val trivial rfl (OV.ibin (v := .bool (decide ((x1 : Int) < (Sl.len p_vals : Int)))) rfl rfl rfl) ?_
  refine GL.nil ?_
  refine GC.seq ?_
  refine GC.cond (b := decide ((x1 : Int) < (Sl.len p_vals : Int))) rfl (fun hc4 => ?_) (fun hc4 => ?_)
  · replace h := And.left h hc4
    refine GC.skip ?_
    refine GC.seq ?_
    refine GC.block ?_
    refine GC.seq ?_
    refine GC.region ?_
    obtain ⟨p5, ha6, hb7, hc8, hd9, h⟩ := h
    refine GL.val trivial rfl (OV.indexAddr (s := p_vals) rfl rfl rfl rfl ha6 hb7 hc8 hd9) ?_
    obtain ⟨x10, hr11, h⟩ := h
    refine GL.val trivial rfl (OV.load (p := (p5.1, p5.2 + (x1 : Int).toNat * 1)) rfl rfl hr11) ?_
    refine GL.val trivial rfl (OV.assign (v := .int .i64 x10) rfl) ?_
    refine GL.nil ?_
    refine GC.seq ?_
    refine GC.region ?_
    refine GL.val trivial rfl (OV.move (v := .int .i64 x10) rfl) ?_
    refine GL.val trivial rfl (OV.move (v := .int .i64 0) rfl) ?_
    refine GL.val trivial rfl (OV.ibin (v := .bool ((x10 : Int) != 0)) rfl rfl rfl) ?_
    refine GL.nil ?_
    refine GC.cond (b := (x10 : Int) != 0) rfl (fun hc12 => ?_) (fun hc12 => ?_)
    · replace h := And.left h hc12
      refine GC.seq ?_
      refine GC.region ?_
      refine GL.val trivial rfl (OV.move (v := .int .i64 x10) rfl) ?_
      refine GL.val trivial rfl (OV.assign (v := .int .i64 x10) rfl) ?_
      refine GL.nil ?_
      exact GC.ret (fun _ _ hf hs => post_tmp1 rfl rfl hf hs ⟨x10, rfl, h⟩)
    · replace h := And.right h hc12
      refine GC.skip_to (fun _ _ h => h) ?_
      refine GC.region ?_
      refine GL.val trivial rfl (OV.ibin (v := .int .i64 (w .i64 (x1 + 1))) rfl rfl rfl) ?_
      refine GL.val trivial rfl (OV.move (v := .int .i64 (w .i64 (x1 + 1))) rfl) ?_
      exact GL.jump (fun _ _ h => h) (w .i64 (x1 + 1)) h ⟨rfl, rfl, rfl, rfl, trivial⟩
  · replace h := And.right h hc4
    refine GC.exit_to (fun _ _ h => h) ?_
    refine GC.seq ?_
    refine GC.region ?_
    refine GL.val trivial rfl (OV.move (v := .int .i64 0) rfl) ?_
    refine GL.val trivial rfl (OV.assign (v := .int .i64 0) rfl) ?_
    refine GL.nil ?_
    exact GC.ret (fun _ _ hf hs => post_tmp1 rfl rfl hf hs ⟨0, rfl, h⟩)

def sh_cmp_Compare_int64 (C : Ctx) (p_x : Int) (p_y : Int) (K : Int → Heap → Prop) (H : Heap) : Prop :=
  c_cmp_isNaN_int64 C p_x (fun r1 H2 =>
 c_cmp_isNaN_int64 C p_y (fun r3 H4 =>
 ift r1
 (ift r3
 (K 0 H4)
 (K (-1) H4))
 (ift r3
 (K 1 H4)
 (ift (decide ((p_x : Int) < p_y))
 (K (-1) H4)
 (ift (decide ((p_x : Int) > p_y))
 (K 1 H4)
 (K 0 H4))))) H2) H

theorem ad_cmp_Compare_int64 (C : Ctx) (p_x : Int) (p_y : Int) (K : Int → Heap → Prop) (H : Heap) (h : sh_cmp_Compare_int64 C p_x p_y K H) : c_cmp_Compare_int64 C p_x p_y K H := by
  refine Spec.enter Tryd.func66 rfl Tryd.ntmps66 rfl ?_
  refine GC.sub [(0, .int .i64 p_x), (1, .int .i64 p_y)] ⟨rfl, rfl, trivial⟩ ?_
  refine GC.seq ?_
  refine GC.region ?_
  refine GL.val trivial rfl (OV.assign (v := .int .i64 0) rfl) ?_
  refine GL.nil ?_
  refine GC.seq ?_
  refine GC.region ?_
  refine GL.val trivial rfl (OV.move (v := .int .i64 p_x) rfl) ?_
  refine GL.call h trivial rfl ok_cmp_isNaN_int64 (vs := [.int .i64 p_x]) rfl ?_
  rintro _ H2 ⟨r1, rfl, h⟩
  refine GL.val trivial rfl (OV.assign (v := .bool r1) rfl) ?_
  refine GL.nil ?_
  refine GC.seq ?_
  refine GC.region ?_
  refine GL.val trivial rfl (OV.move (v := .int .i64 p_y) rfl) ?_
  refine GL.call h trivial rfl ok_cmp_isNaN_int64 (vs := [.int .i64 p_y]) rfl ?_
  rintro _ H4 ⟨r3, rfl, h⟩
  refine GL.val trivial rfl (OV.assign (v := .bool r3) rfl) ?_
  refine GL.nil ?_
  refine GC.seq ?_
  refine GC.seq ?_
  refine GC.region ?_
  refine GL.val trivial rfl (OV.move (v := .bool r1) rfl) ?_
  refine GL.nil ?_
  refine GC.cond (b := r1) rfl (fun hc5 => ?_) (fun hc5 => ?_)
  · replace h := And.left h hc5
    refine GC.seq ?_
    refine GC.seq ?_
    refine GC.region ?_
    refine GL.val trivial rfl (OV.move (v := .bool r3) rfl) ?_
    refine GL.nil ?_
    refine GC.cond (b := r3) rfl (fun hc6 => ?_) (fun hc6 => ?_)
    · replace h := And.left h hc6
      refine GC.seq ?_
      refine GC.region ?_
      refine GL.val trivial rfl (OV.assign (v := .int .i64 0) rfl) ?_
      refine GL.nil ?_
      exact GC.ret (fun _ _ hf hs => post_tmp1 rfl rfl hf hs ⟨0, rfl, h⟩)
    · replace h := And.right h hc6
      refine GC.skip ?_
      refine GC.seq ?_
      refine GC.region ?_
      refine GL.val trivial rfl (OV.assign (v := .int .i64 (-1)) rfl) ?_
      refine GL.nil ?_
      exact GC.ret (fun _ _ hf hs => post_tmp1 rfl rfl hf hs ⟨(-1), rfl, h⟩)
  · replace h := And.right h hc5
    refine GC.skip ?_
    refine GC.seq ?_
    refine GC.seq ?_
    refine GC.region ?_
    refine GL.val trivial rfl (OV.move (v := .bool r3) rfl) ?_
    refine GL.nil ?_
    refine GC.cond (b := r3) rfl (fun hc7 => ?_) (fun hc7 => ?_)
    · replace h := And.left h hc7
      refine GC.seq ?_
      refine GC.region ?_
      refine GL.val trivial rfl (OV.assign (v := .int .i64 1) rfl) ?_
      refine GL.nil ?_
      exact GC.ret (fun _ _ hf hs => post_tmp1 rfl rfl hf hs ⟨1, rfl, h⟩)
    · replace h := And.right h hc7
      refine GC.skip ?_
      refine GC.seq ?_
      refine GC.seq ?_
      refine GC.region ?_
      refine GL.val trivial rfl (OV.move (v := .int .i64 p_x) rfl) ?_
      refine GL.val trivial rfl (OV.move (v := .int .i64 p_y) rfl) ?_
      refine GL.val trivial rfl (OV.ibin (v := .bool (decide ((p_x : Int) < p_y))) rfl rfl rfl) ?_
      refine GL.nil ?_
      refine GC.cond (b := decide ((p_x : Int) < p_y)) rfl (fun hc8 => ?_) (fun hc8 => ?_)
      · replace h := And.left h hc8
        refine GC.seq ?_
        refine GC.region ?_
        refine GL.val trivial rfl (OV.assign (v := .int .i64 (-1)) rfl) ?_
        refine GL.nil ?_
        exact GC.ret (fun _ _ hf hs => post_tmp1 rfl rfl hf hs ⟨(-1), rfl, h⟩)
      · replace h := And.right h hc8
        refine GC.skip ?_
        refine GC.seq ?_
        refine GC.seq ?_
        refine GC.region ?_
        refine GL.val trivial rfl (OV.move (v := .int .i64 p_x) rfl) ?_
        refine GL.val trivial rfl (OV.move (v := .int .i64 p_y) rfl) ?_
        refine GL.val trivial rfl (OV.ibin (v := .bool (decide ((p_x : Int) > p_y))) rfl rfl rfl) ?_
        refine GL.nil ?_
        refine GC.cond (b := decide ((p_x : Int) > p_y)) rfl (fun hc9 => ?_) (fun hc9 => ?_)
        · replace h := And.left h hc9
          refine GC.seq ?_
          refine GC.region ?_
          refine GL.val trivial rfl (OV.assign (v := .int .i64 1) rfl) ?_
          refine GL.nil ?_
          exact GC.ret (fun _ _ hf hs => post_tmp1 rfl rfl hf hs ⟨1, rfl, h⟩)
        · replace h := And.right h hc9
          refine GC.skip ?_
          refine GC.seq ?_
          refine GC.region ?_
          refine GL.val trivial rfl (OV.assign (v := .int .i64 0) rfl) ?_
          refine GL.nil ?_
          exact GC.ret (fun _ _ hf hs => post_tmp1 rfl rfl hf hs ⟨0, rfl, h⟩)

def sh_slices_insertionSortCmpFunc_api_Value (C : Ctx) (p_data : Sl) (p_a : Int) (p_b : Int) (p_cmp : Value) (K : Heap → Prop) (H : Heap) : Prop :=
  lp (α := Int) (w .i64 (p_a + 1)) H (fun x1 J2 H3 =>
 ift (decide ((x1 : Int) < p_b))
 (lp (α := Int) x1 H3 (fun x5 J6 H7 =>
 jn (α := Bool) (fun x9 H10 =>
 ift x9
 (jn (α := Unit) (fun x34 H35 =>
 J6 (w .i64 (x5 - 1)) H35)
 (fun J33 => dr H10 fun Hs37 =>
 ixa p_data (w .i64 (x5 - 1)) fun p39 =>
 ixa p_data x5 fun p44 =>
 (ldL H10 (p39.1, p39.2 + (w .i64 (x5 - 1) : Int).toNat * 1) fun x50 =>
 Heap.le Hs37 H10 ∧
 ldL H10 (p44.1, p44.2 + (x5 : Int).toNat * 1) fun x53 =>
 Heap.le Hs37 H10 ∧
 ixa p_data x5 fun p55 =>
 st (p55.1, p55.2 + (x5 : Int).toNat * 1) (slv x50) (fun H61 =>
 Heap.le Hs37 H61 ∧
 ixa p_data (w .i64 (x5 - 1)) fun p62 =>
 st (p62.1, p62.2 + (w .i64 (x5 - 1) : Int).toNat * 1) (slv x53) (fun H67 =>
 J33 () H67) H61) H10) ∧
 (ldL H10 (p44.1, p44.2 + (x5 : Int).toNat * 1) fun x69 =>
 Heap.le Hs37 H10 ∧
 ldL H10 (p39.1, p39.2 + (w .i64 (x5 - 1) : Int).toNat * 1) fun x72 =>
 Heap.le Hs37 H10 ∧
 ixa p_data x5 fun p74 =>
 st (p74.1, p74.2 + (x5 : Int).toNat * 1) (slv x72) (fun H80 =>
 Heap.le Hs37 H80 ∧
 ixa p_data (w .i64 (x5 - 1)) fun p81 =>
 st (p81.1, p81.2 + (w .i64 (x5 - 1) : Int).toNat * 1) (slv x69) (fun H86 =>
 J33 () H86) H80) H10)))
 (J2 (w .i64 (x1 + 1)) H10))
 (fun J8 => dr H7 fun Hs12 =>
 ift (decide ((x5 : Int) > p_a))
 (ixa p_data x5 fun p15 =>
 ldL Hs12 (p15.1, p15.2 + (x5 : Int).toNat * 1) fun x20 =>
 ixa p_data (w .i64 (x5 - 1)) fun p22 =>
 ldL Hs12 (p22.1, p22.2 + (w .i64 (x5 - 1) : Int).toNat * 1) fun x27 =>
 callU Tryd.prog C p_cmp [slv x20, slv x27] H7 (fun v H31 => ∃ (r30 : Int), v = .int .i64 r30 ∧
 Heap.le Hs12 H31 ∧
 J8 (decide ((r30 : Int) < 0)) H31))
 (J8 false H7))))
 (K H3))

theorem ad_slices_insertionSortCmpFunc_api_Value (C : Ctx) (p_data : Sl) (p_a : Int) (p_b : Int) (p_cmp : Value) (K : Heap → Prop) (H : Heap) (h : sh_slices_insertionSortCmpFunc_api_Value C p_data p_a p_b p_cmp K H) : c_slices_insertionSortCmpFunc_api_Value C p_data p_a p_b p_cmp K H := by
  refine Spec.enter Tryd.func67 rfl Tryd.ntmps67 rfl ?_
  refine GC.sub [(0, slv p_data), (1, .int .i64 p_a), (2, .int .i64 p_b), (3, p_cmp)] ⟨rfl, rfl, rfl, rfl, trivial⟩ ?_
  refine GC.seq ?_
  refine GC.region ?_
  refine GL.val trivial rfl (OV.move (v := .int .i64 p_a) rfl) ?_
  refine GL.val trivial rfl (OV.ibin (v := .int .i64 (w .i64 (p_a + 1))) rfl rfl rfl) ?_
  refine GL.val trivial rfl (OV.assign (v := .int .i64 (w .i64 (p_a + 1))) rfl) ?_
  refine GL.nil ?_
  refine GC.block ?_
  refine GC.loop (α := Int) h (fun x1 => [(8, .int .i64 x1), (0, slv p_data), (1, .int .i64 p_a), (2, .int .i64 p_b), (3, p_cmp)]) ⟨rfl, rfl, rfl, rfl, rfl, trivial⟩ ?_
  intro x1 H3 J2 h
  refine GC.seq ?_
  refine GC.seq ?_
  refine GC.region ?_
  refine GL.val trivial rfl (OV.move (v := .int .i64 x1) rfl) ?_
  refine GL.val trivial rfl (OV.move (v := .int .i64 p_b) rfl) ?_
  refine GL.val trivial rfl (OV.ibin (v := .bool (decide ((x1 : Int) < p_b))) rfl rfl rfl) ?_
  refine GL.nil ?_
  refine GC.cond (b := decide ((x1 : Int) < p_b)) rfl (fun hc4 => ?_) (fun hc4 => ?_)
  · replace h := And.left h hc4
    refine GC.skip ?_
    refine GC.seq ?_
    refine GC.block ?_
    refine GC.seq ?_
    refine GC.region ?_
    refine GL.val trivial rfl (OV.move (v := .int .i64 x1) rfl) ?_
    refine GL.val trivial rfl (OV.assign (v := .int .i64 x1) rfl) ?_
    refine GL.nil ?_
    refine GC.block ?_
    refine GC.loop (α := Int) h (fun x5 => [(9, .int .i64 x5), (0, slv p_data), (1, .int .i64 p_a), (2, .int .i64 p_b), (3, p_cmp), (8, .int .i64 x1)]) ⟨rfl, rfl, rfl, rfl, rfl, rfl, trivial⟩ ?_
    intro x5 H7 J6 h
    refine GC.seq ?_
    refine GC.seq ?_
    obtain ⟨J8, h, hR11⟩ := h
    refine GC.meet (α := Bool) J8 (fun x9 => [(34, .bool x9), (0, slv p_data), (1, .int .i64 p_a), (2, .int .i64 p_b), (3, p_cmp), (8, .int .i64 x1), (9, .int .i64 x5)]) ?_ ?_
    · skip
      obtain ⟨Hs12, hle13, h⟩ := h
      refine GC.any (Hs := Hs12) (by kernel_rfl) hle13 ?_
      refine GA.take 0 rfl (by kernel_rfl) (by kernel_rfl) (by kernel_rfl) (fun _ _ _ h => False.elim h) trivial rfl (OV.move (v := .int .i64 x5) rfl) ?_
      refine GA.take 1 rfl (by kernel_rfl) (by kernel_rfl) (by kernel_rfl) (fun _ _ _ h => False.elim h) trivial rfl (OV.move (v := .int .i64 p_a) rfl) ?_
      refine GA.take 2 rfl (by kernel_rfl) (by kernel_rfl) (by kernel_rfl) (fun _ _ _ h => False.elim h) trivial rfl (OV.ibin (v := .bool (decide ((x5 : Int) > p_a))) rfl rfl rfl) ?_
      refine GA.take 3 rfl (by kernel_rfl) (by kernel_rfl) (by kernel_rfl) (fun _ _ _ h => False.elim h) trivial rfl (OV.move (v := .bool (decide ((x5 : Int) > p_a))) rfl) ?_
      rcases Bool.eq_false_or_eq_true (decide ((x5 : Int) > p_a)) with hc14 | hc14
      · replace h := And.left h hc14
        refine GA.take 4 rfl (by kernel_rfl) (by kernel_rfl) (by kernel_rfl) (fun _ _ _ h => False.elim h) ⟨_, _, rfl, rfl, hc14⟩ rfl (OV.move (v := p_cmp) rfl) ?_
        refine GA.take 5 rfl (by kernel_rfl) (by kernel_rfl) (by kernel_rfl) (fun _ _ _ h => False.elim h) ⟨_, _, rfl, rfl, hc14⟩ rfl (OV.move (v := slv p_data) rfl) ?_
        refine GA.take 6 rfl (by kernel_rfl) (by kernel_rfl) (by kernel_rfl) (fun _ _ _ h => False.elim h) ⟨_, _, rfl, rfl, hc14⟩ rfl (OV.move (v := .int .i64 x5) rfl) ?_
        obtain ⟨p15, ha16, hb17, hc18, hd19, h⟩ := h
        refine GA.take 7 rfl (by kernel_rfl) (by kernel_rfl) (by kernel_rfl) (fun _ _ _ h => False.elim h) ⟨_, _, rfl, rfl, hc14⟩ rfl (OV.indexAddr (s := p_data) rfl rfl rfl rfl ha16 hb17 hc18 hd19) ?_
        obtain ⟨x20, hr21, h⟩ := h
        refine GA.take 8 rfl (by kernel_rfl) (by kernel_rfl) (by kernel_rfl) (fun _ _ _ h => False.elim h) ⟨_, _, rfl, rfl, hc14⟩ rfl (OV.load (p := (p15.1, p15.2 + (x5 : Int).toNat * 1)) rfl rfl hr21) ?_
        refine GA.take 9 rfl (by kernel_rfl) (by kernel_rfl) (by kernel_rfl) (fun _ _ _ h => False.elim h) ⟨_, _, rfl, rfl, hc14⟩ rfl (OV.move (v := slv p_data) rfl) ?_
        refine GA.take 10 rfl (by kernel_rfl) (by kernel_rfl) (by kernel_rfl) (fun _ _ _ h => False.elim h) ⟨_, _, rfl, rfl, hc14⟩ rfl (OV.move (v := .int .i64 x5) rfl) ?_
        refine GA.take 11 rfl (by kernel_rfl) (by kernel_rfl) (by kernel_rfl) (fun _ _ _ h => False.elim h) ⟨_, _, rfl, rfl, hc14⟩ rfl (OV.ibin (v := .int .i64 (w .i64 (x5 - 1))) rfl rfl rfl) ?_
        obtain ⟨p22, ha23, hb24, hc25, hd26, h⟩ := h
        refine GA.take 12 rfl (by kernel_rfl) (by kernel_rfl) (by kernel_rfl) (fun _ _ _ h => False.elim h) ⟨_, _, rfl, rfl, hc14⟩ rfl (OV.indexAddr (s := p_data) rfl rfl rfl rfl ha23 hb24 hc25 hd26) ?_
        obtain ⟨x27, hr28, h⟩ := h
        refine GA.take 13 rfl (by kernel_rfl) (by kernel_rfl) (by kernel_rfl) (fun _ _ _ h => False.elim h) ⟨_, _, rfl, rfl, hc14⟩ rfl (OV.load (p := (p22.1, p22.2 + (w .i64 (x5 - 1) : Int).toNat * 1)) rfl rfl hr28) ?_
        refine GA.eff 14 rfl (by kernel_rfl) ?_
        refine GL.callU (xv := p_cmp) (vs := [slv x20, slv x27]) h ⟨_, _, rfl, rfl, hc14⟩ rfl rfl rfl ?_
        rintro _ H31 ⟨r30, rfl, h⟩
        obtain ⟨hle29, h⟩ := h
        refine GA.back hle29 ?_
        refine GA.take 15 rfl (by kernel_rfl) (by kernel_rfl) (by kernel_rfl) (fun _ _ _ h => False.elim h) ⟨_, _, rfl, rfl, hc14⟩ rfl (OV.ibin (v := .bool (decide ((r30 : Int) < 0))) rfl rfl rfl) ?_
        refine GA.take 16 rfl (by kernel_rfl) (by kernel_rfl) (by kernel_rfl) (fun _ _ _ h => False.elim h) trivial rfl (OV.pickT (b := decide ((x5 : Int) > p_a)) (v := .bool (decide ((r30 : Int) < 0))) rfl hc14 rfl) ?_
        refine GA.done (by kernel_rfl) ?_
        exact GL.jump (fun _ _ h => h) (decide ((r30 : Int) < 0)) h ⟨rfl, rfl, rfl, rfl, rfl, rfl, rfl, trivial⟩
      · replace h := And.right h hc14
        refine GA.skip 4 rfl (by kernel_rfl) (by kernel_rfl) (by kernel_rfl) (fun _ _ _ h => False.elim h) ⟨_, rfl, .inl ⟨_, rfl, hc14⟩⟩ rfl ?_
        refine GA.skip 5 rfl (by kernel_rfl) (by kernel_rfl) (by kernel_rfl) (fun _ _ _ h => False.elim h) ⟨_, rfl, .inl ⟨_, rfl, hc14⟩⟩ rfl ?_
        refine GA.skip 6 rfl (by kernel_rfl) (by kernel_rfl) (by kernel_rfl) (fun _ _ _ h => False.elim h) ⟨_, rfl, .inl ⟨_, rfl, hc14⟩⟩ rfl ?_
        refine GA.skip 7 rfl (by kernel_rfl) (by kernel_rfl) (by kernel_rfl) (fun _ _ _ h => False.elim h) ⟨_, rfl, .inl ⟨_, rfl, hc14⟩⟩ rfl ?_
        refine GA.skip 8 rfl (by kernel_rfl) (by kernel_rfl) (by kernel_rfl) (fun _ _ _ h => False.elim h) ⟨_, rfl, .inl ⟨_, rfl, hc14⟩⟩ rfl ?_
        refine GA.skip 9 rfl (by kernel_rfl) (by kernel_rfl) (by kernel_rfl) (fun _ _ _ h => False.elim h) ⟨_, rfl, .inl ⟨_, rfl, hc14⟩⟩ rfl ?_
        refine GA.skip 10 rfl (by kernel_rfl) (by kernel_rfl) (by kernel_rfl) (fun _ _ _ h => False.elim h) ⟨_, rfl, .inl ⟨_, rfl, hc14⟩⟩ rfl ?_
        refine GA.skip 11 rfl (by kernel_rfl) (by kernel_rfl) (by kernel_rfl) (fun _ _ _ h => False.elim h) ⟨_, rfl, .inl ⟨_, rfl, hc14⟩⟩ rfl ?_
        refine GA.skip 12 rfl (by kernel_rfl) (by kernel_rfl) (by kernel_rfl) (fun _ _ _ h => False.elim h) ⟨_, rfl, .inl ⟨_, rfl, hc14⟩⟩ rfl ?_
        refine GA.skip 13 rfl (by kernel_rfl) (by kernel_rfl) (by kernel_rfl) (fun _ _ _ h => False.elim h) ⟨_, rfl, .inl ⟨_, rfl, hc14⟩⟩ rfl ?_
        refine GA.skip 14 rfl (by kernel_rfl) (by kernel_rfl) (by kernel_rfl) (fun _ _ _ h => False.elim h) ⟨_, rfl, .inl ⟨_, rfl, hc14⟩⟩ rfl ?_
        refine GA.skip 15 rfl (by kernel_rfl) (by kernel_rfl) (by kernel_rfl) (fun _ _ _ h => False.elim h) ⟨_, rfl, .inl ⟨_, rfl, hc14⟩⟩ rfl ?_
        refine GA.take 16 rfl (by kernel_rfl) (by kernel_rfl) (by kernel_rfl) (fun _ _ _ h => False.elim h) trivial rfl (OV.pickF (b := decide ((x5 : Int) > p_a)) (v := .bool false) rfl hc14 rfl) ?_
        refine GA.done (by kernel_rfl) ?_
        exact GL.jump (fun _ _ h => h) false h ⟨rfl, rfl, rfl, rfl, rfl, rfl, rfl, trivial⟩
    · intro x9 H10 h
      replace h := hR11 x9 H10 h
      refine GL.nil ?_
      refine GC.cond (b := x9) rfl (fun hc32 => ?_) (fun hc32 => ?_)
      · replace h := And.left h hc32
        refine GC.skip ?_
        refine GC.seq ?_
        refine GC.block ?_
        obtain ⟨J33, h, hR36⟩ := h
        refine GC.meet (α := Unit) J33 (fun _ => [(0, slv p_data), (1, .int .i64 p_a), (2, .int .i64 p_b), (3, p_cmp), (8, .int .i64 x1), (9, .int .i64 x5)]) ?_ ?_
        · skip
          obtain ⟨Hs37, hle38, h⟩ := h
          refine GC.tail (Hs := Hs37) 17 (by kernel_rfl) hle38 (by kernel_rfl) ?_
          refine GT.take 0 rfl (by kernel_rfl) (by kernel_rfl) (by kernel_rfl) rfl (fun _ _ _ h => False.elim h) trivial rfl (OV.move (v := slv p_data) rfl) ?_
          refine GT.take 1 rfl (by kernel_rfl) (by kernel_rfl) (by kernel_rfl) rfl (fun _ _ _ h => False.elim h) trivial rfl (OV.move (v := .int .i64 x5) rfl) ?_
          refine GT.take 2 rfl (by kernel_rfl) (by kernel_rfl) (by kernel_rfl) rfl (fun _ _ _ h => False.elim h) trivial rfl (OV.move (v := slv p_data) rfl) ?_
          refine GT.take 3 rfl (by kernel_rfl) (by kernel_rfl) (by kernel_rfl) rfl (fun _ _ _ h => False.elim h) trivial rfl (OV.move (v := .int .i64 x5) rfl) ?_
          refine GT.take 4 rfl (by kernel_rfl) (by kernel_rfl) (by kernel_rfl) rfl (fun _ _ _ h => False.elim h) trivial rfl (OV.ibin (v := .int .i64 (w .i64 (x5 - 1))) rfl rfl rfl) ?_
          refine GT.take 5 rfl (by kernel_rfl) (by kernel_rfl) (by kernel_rfl) rfl (fun _ _ _ h => False.elim h) trivial rfl (OV.move (v := slv p_data) rfl) ?_
          refine GT.take 6 rfl (by kernel_rfl) (by kernel_rfl) (by kernel_rfl) rfl (fun _ _ _ h => False.elim h) trivial rfl (OV.move (v := .int .i64 x5) rfl) ?_
          refine GT.take 7 rfl (by kernel_rfl) (by kernel_rfl) (by kernel_rfl) rfl (fun _ _ _ h => False.elim h) trivial rfl (OV.ibin (v := .int .i64 (w .i64 (x5 - 1))) rfl rfl rfl) ?_
          obtain ⟨p39, ha40, hb41, hc42, hd43, h⟩ := h
          refine GT.take 8 rfl (by kernel_rfl) (by kernel_rfl) (by kernel_rfl) rfl (fun _ _ _ h => False.elim h) trivial rfl (OV.indexAddr (s := p_data) rfl rfl rfl rfl ha40 hb41 hc42 hd43) ?_
          refine GT.take 10 rfl (by kernel_rfl) (by kernel_rfl) (by kernel_rfl) rfl (fun _ _ _ h => False.elim h) trivial rfl (OV.move (v := slv p_data) rfl) ?_
          refine GT.take 11 rfl (by kernel_rfl) (by kernel_rfl) (by kernel_rfl) rfl (fun _ _ _ h => False.elim h) trivial rfl (OV.move (v := .int .i64 x5) rfl) ?_
          obtain ⟨p44, ha45, hb46, hc47, hd48, h⟩ := h
          refine GT.take 12 rfl (by kernel_rfl) (by kernel_rfl) (by kernel_rfl) rfl (fun _ _ _ h => False.elim h) trivial rfl (OV.indexAddr (s := p_data) rfl rfl rfl rfl ha45 hb46 hc47 hd48) ?_
          refine GT.effs [9, 13] (by kernel_rfl) (by simp) (List.forall_mem_cons.2 ⟨⟨_, rfl, rfl, ?_⟩, List.forall_mem_cons.2 ⟨⟨_, rfl, rfl, ?_⟩, fun _ h => by cases h⟩⟩)
          · replace h := h.1
            obtain ⟨x50, hr51, h⟩ := h
            refine GL.val trivial rfl (OV.load (p := (p39.1, p39.2 + (w .i64 (x5 - 1) : Int).toNat * 1)) rfl rfl hr51) ?_
            obtain ⟨hle49, h⟩ := h
            refine GT.back hle49 ?_
            refine GT.eff 13 rfl (by kernel_rfl) rfl ?_
            obtain ⟨x53, hr54, h⟩ := h
            refine GL.val trivial rfl (OV.load (p := (p44.1, p44.2 + (x5 : Int).toNat * 1)) rfl rfl hr54) ?_
            obtain ⟨hle52, h⟩ := h
            refine GT.back hle52 ?_
            obtain ⟨p55, ha56, hb57, hc58, hd59, h⟩ := h
            refine GT.take 14 rfl (by kernel_rfl) (by kernel_rfl) (by kernel_rfl) rfl (fun _ _ _ h => False.elim h) trivial rfl (OV.indexAddr (s := p_data) rfl rfl rfl rfl ha56 hb57 hc58 hd59) ?_
            refine GT.eff 15 rfl (by kernel_rfl) rfl ?_
            refine GL.store (p := (p55.1, p55.2 + (x5 : Int).toNat * 1)) (v := slv x50) h trivial rfl rfl rfl rfl ?_
            intro H61 h
            obtain ⟨hle60, h⟩ := h
            refine GT.back hle60 ?_
            obtain ⟨p62, ha63, hb64, hc65, hd66, h⟩ := h
            refine GT.take 16 rfl (by kernel_rfl) (by kernel_rfl) (by kernel_rfl) rfl (fun _ _ _ h => False.elim h) trivial rfl (OV.indexAddr (s := p_data) rfl rfl rfl rfl ha63 hb64 hc65 hd66) ?_
            refine GT.done (by kernel_rfl) ?_
            show GL _ _ _ _ _ [_] _ _
            refine GL.store (p := (p62.1, p62.2 + (w .i64 (x5 - 1) : Int).toNat * 1)) (v := slv x53) h trivial rfl rfl rfl rfl ?_
            intro H67 h
            exact GL.jump (fun _ _ h => h) () h ⟨rfl, rfl, rfl, rfl, rfl, rfl, trivial⟩
          · replace h := h.2
            obtain ⟨x69, hr70, h⟩ := h
            refine GL.val trivial rfl (OV.load (p := (p44.1, p44.2 + (x5 : Int).toNat * 1)) rfl rfl hr70) ?_
            obtain ⟨hle68, h⟩ := h
            refine GT.back hle68 ?_
            refine GT.eff 9 rfl (by kernel_rfl) rfl ?_
            obtain ⟨x72, hr73, h⟩ := h
            refine GL.val trivial rfl (OV.load (p := (p39.1, p39.2 + (w .i64 (x5 - 1) : Int).toNat * 1)) rfl rfl hr73) ?_
            obtain ⟨hle71, h⟩ := h
            refine GT.back hle71 ?_
            obtain ⟨p74, ha75, hb76, hc77, hd78, h⟩ := h
            refine GT.take 14 rfl (by kernel_rfl) (by kernel_rfl) (by kernel_rfl) rfl (fun _ _ _ h => False.elim h) trivial rfl (OV.indexAddr (s := p_data) rfl rfl rfl rfl ha75 hb76 hc77 hd78) ?_
            refine GT.eff 15 rfl (by kernel_rfl) rfl ?_
            refine GL.store (p := (p74.1, p74.2 + (x5 : Int).toNat * 1)) (v := slv x72) h trivial rfl rfl rfl rfl ?_
            intro H80 h
            obtain ⟨hle79, h⟩ := h
            refine GT.back hle79 ?_
            obtain ⟨p81, ha82, hb83, hc84, hd85, h⟩ := h
            refine GT.take 16 rfl (by kernel_rfl) (by kernel_rfl) (by kernel_rfl) rfl (fun _ _ _ h => False.elim h) trivial rfl (OV.indexAddr (s := p_data) rfl rfl rfl rfl ha82 hb83 hc84 hd85) ?_
            refine GT.done (by kernel_rfl) ?_
            show GL _ _ _ _ _ [_] _ _
            refine GL.store (p := (p81.1, p81.2 + (w .i64 (x5 - 1) : Int).toNat * 1)) (v := slv x69) h trivial rfl rfl rfl rfl ?_
            intro H86 h
            exact GL.jump (fun _ _ h => h) () h ⟨rfl, rfl, rfl, rfl, rfl, rfl, trivial⟩
        · intro x34 H35 h
          replace h := hR36 x34 H35 h
          refine GL.nil_to (fun _ _ h => h) ?_
          refine GC.region ?_
          refine GL.val trivial rfl (OV.move (v := .int .i64 x5) rfl) ?_
          refine GL.val trivial rfl (OV.ibin (v := .int .i64 (w .i64 (x5 - 1))) rfl rfl rfl) ?_
          refine GL.val trivial rfl (OV.assign (v := .int .i64 (w .i64 (x5 - 1))) rfl) ?_
          exact GL.jump (fun _ _ h => h) (w .i64 (x5 - 1)) h ⟨rfl, rfl, rfl, rfl, rfl, rfl, trivial⟩
      · replace h := And.right h hc32
        refine GC.exit_to (fun _ _ h => h) ?_
        refine GC.region ?_
        refine GL.val trivial rfl (OV.move (v := .int .i64 x1) rfl) ?_
        refine GL.val trivial rfl (OV.ibin (v := .int .i64 (w .i64 (x1 + 1))) rfl rfl rfl) ?_
        refine GL.val trivial rfl (OV.assign (v := .int .i64 (w .i64 (x1 + 1))) rfl) ?_
        exact GL.jump (fun _ _ h => h) (w .i64 (x1 + 1)) h ⟨rfl, rfl, rfl, rfl, rfl, trivial⟩
  · replace h := And.right h hc4
    exact GC.exit_ends (fun _ _ hf hs => post_tmp0 rfl hf hs ⟨rfl, h⟩)

def sh_slices_symMergeCmpFunc_api_Value (C : Ctx) (p_data : Sl) (p_a : Int) (p_m : Int) (p_b : Int) (p_cmp : Value) (K : Heap → Prop) (H : Heap) : Prop :=
  ift (((w .i64 (p_m - p_a)) : Int) == 1)
 (lp (α := Int × Int) (p_m, p_b) H (fun x2 J3 H4 =>
 ift (decide ((x2.1 : Int) < x2.2))
 (dr H4 fun Hs6 =>
 ixa p_data (w .i64 (sShr .u64 (w .u64 (w .i64 (x2.1 + x2.2))) 1)) fun p8 =>
 ldL Hs6 (p8.1, p8.2 + (w .i64 (sShr .u64 (w .u64 (w .i64 (x2.1 + x2.2))) 1) : Int).toNat * 1) fun x13 =>
 ixa p_data p_a fun p15 =>
 ldL Hs6 (p15.1, p15.2 + (p_a : Int).toNat * 1) fun x20 =>
 callU Tryd.prog C p_cmp [slv x13, slv x20] H4 (fun v H24 => ∃ (r23 : Int), v = .int .i64 r23 ∧
 Heap.le Hs6 H24 ∧
 ift (decide ((r23 : Int) < 0))
 (J3 ((w .i64 ((w .i64 (sShr .u64 (w .u64 (w .i64 (x2.1 + x2.2))) 1)) + 1)), x2.2) H24)
 (J3 (x2.1, (w .i64 (sShr .u64 (w .u64 (w .i64 (x2.1 + x2.2))) 1))) H24)))
 (lp (α := Int) p_a H4 (fun x26 J27 H28 =>
 ift (decide ((x26 : Int) < (w .i64 (x2.1 - 1))))
 (jn (α := Unit) (fun x31 H32 =>
 J27 (w .i64 (x26 + 1)) H32)
 (fun J30 => dr H28 fun Hs34 =>
 ixa p_data (w .i64 (x26 + 1)) fun p36 =>
 ixa p_data x26 fun p41 =>
 (ldL H28 (p36.1, p36.2 + (w .i64 (x26 + 1) : Int).toNat * 1) fun x47 =>
 Heap.le Hs34 H28 ∧
 ldL H28 (p41.1, p41.2 + (x26 : Int).toNat * 1) fun x50 =>
 Heap.le Hs34 H28 ∧
 ixa p_data x26 fun p52 =>
 st (p52.1, p52.2 + (x26 : Int).toNat * 1) (slv x47) (fun H58 =>
 Heap.le Hs34 H58 ∧
 ixa p_data (w .i64 (x26 + 1)) fun p59 =>
 st (p59.1, p59.2 + (w .i64 (x26 + 1) : Int).toNat * 1) (slv x50) (fun H64 =>
 J30 () H64) H58) H28) ∧
 (ldL H28 (p41.1, p41.2 + (x26 : Int).toNat * 1) fun x66 =>
 Heap.le Hs34 H28 ∧
 ldL H28 (p36.1, p36.2 + (w .i64 (x26 + 1) : Int).toNat * 1) fun x69 =>
 Heap.le Hs34 H28 ∧
 ixa p_data x26 fun p71 =>
 st (p71.1, p71.2 + (x26 : Int).toNat * 1) (slv x69) (fun H77 =>
 Heap.le Hs34 H77 ∧
 ixa p_data (w .i64 (x26 + 1)) fun p78 =>
 st (p78.1, p78.2 + (w .i64 (x26 + 1) : Int).toNat * 1) (slv x66) (fun H83 =>
 J30 () H83) H77) H28)))
 (K H28)))))
 (ift (((w .i64 (p_b - p_m)) : Int) == 1)
 (lp (α := Int × Int) (p_a, p_m) H (fun x85 J86 H87 =>
 ift (decide ((x85.1 : Int) < x85.2))
 (dr H87 fun Hs89 =>
 ixa p_data p_m fun p91 =>
 ldL Hs89 (p91.1, p91.2 + (p_m : Int).toNat * 1) fun x96 =>
 ixa p_data (w .i64 (sShr .u64 (w .u64 (w .i64 (x85.1 + x85.2))) 1)) fun p98 =>
 ldL Hs89 (p98.1, p98.2 + (w .i64 (sShr .u64 (w .u64 (w .i64 (x85.1 + x85.2))) 1) : Int).toNat * 1) fun x103 =>
 callU Tryd.prog C p_cmp [slv x96, slv x103] H87 (fun v H107 => ∃ (r106 : Int), v = .int .i64 r106 ∧
 Heap.le Hs89 H107 ∧
 ift (!(decide ((r106 : Int) < 0)))
 (J86 ((w .i64 ((w .i64 (sShr .u64 (w .u64 (w .i64 (x85.1 + x85.2))) 1)) + 1)), x85.2) H107)
 (J86 (x85.1, (w .i64 (sShr .u64 (w .u64 (w .i64 (x85.1 + x85.2))) 1))) H107)))
 (lp (α := Int) p_m H87 (fun x109 J110 H111 =>
 ift (decide ((x109 : Int) > x85.1))
 (jn (α := Unit) (fun x114 H115 =>
 J110 (w .i64 (x109 - 1)) H115)
 (fun J113 => dr H111 fun Hs117 =>
 ixa p_data (w .i64 (x109 - 1)) fun p119 =>
 ixa p_data x109 fun p124 =>
 (ldL H111 (p119.1, p119.2 + (w .i64 (x109 - 1) : Int).toNat * 1) fun x130 =>
 Heap.le Hs117 H111 ∧
 ldL H111 (p124.1, p124.2 + (x109 : Int).toNat * 1) fun x133 =>
 Heap.le Hs117 H111 ∧
 ixa p_data x109 fun p135 =>
 st (p135.1, p135.2 + (x109 : Int).toNat * 1) (slv x130) (fun H141 =>
 Heap.le Hs117 H141 ∧
 ixa p_data (w .i64 (x109 - 1)) fun p142 =>
 st (p142.1, p142.2 + (w .i64 (x109 - 1) : Int).toNat * 1) (slv x133) (fun H147 =>
 J113 () H147) H141) H111) ∧
 (ldL H111 (p124.1, p124.2 + (x109 : Int).toNat * 1) fun x149 =>
 Heap.le Hs117 H111 ∧
 ldL H111 (p119.1, p119.2 + (w .i64 (x109 - 1) : Int).toNat * 1) fun x152 =>
 Heap.le Hs117 H111 ∧
 ixa p_data x109 fun p154 =>
 st (p154.1, p154.2 + (x109 : Int).toNat * 1) (slv x152) (fun H160 =>
 Heap.le Hs117 H160 ∧
 ixa p_data (w .i64 (x109 - 1)) fun p161 =>
 st (p161.1, p161.2 + (w .i64 (x109 - 1) : Int).toNat * 1) (slv x149) (fun H166 =>
 J113 () H166) H160) H111)))
 (K H111)))))
 (jn (α := Int × Int) (fun x168 H169 =>
 lp (α := Int × Int) (x168.1, x168.2) H169 (fun x172 J173 H174 =>
 ift (decide ((x172.1 : Int) < x172.2))
 (dr H174 fun Hs176 =>
 ixa p_data (w .i64 ((w .i64 ((w .i64 ((w .i64 (sShr .u64 (w .u64 (w .i64 (p_a + p_b))) 1)) + p_m)) - 1)) - (w .i64 (sShr .u64 (w .u64 (w .i64 (x172.1 + x172.2))) 1)))) fun p178 =>
 ldL Hs176 (p178.1, p178.2 + (w .i64 ((w .i64 ((w .i64 ((w .i64 (sShr .u64 (w .u64 (w .i64 (p_a + p_b))) 1)) + p_m)) - 1)) - (w .i64 (sShr .u64 (w .u64 (w .i64 (x172.1 + x172.2))) 1))) : Int).toNat * 1) fun x183 =>
 ixa p_data (w .i64 (sShr .u64 (w .u64 (w .i64 (x172.1 + x172.2))) 1)) fun p185 =>
 ldL Hs176 (p185.1, p185.2 + (w .i64 (sShr .u64 (w .u64 (w .i64 (x172.1 + x172.2))) 1) : Int).toNat * 1) fun x190 =>
 callU Tryd.prog C p_cmp [slv x183, slv x190] H174 (fun v H194 => ∃ (r193 : Int), v = .int .i64 r193 ∧
 Heap.le Hs176 H194 ∧
 ift (!(decide ((r193 : Int) < 0)))
 (J173 ((w .i64 ((w .i64 (sShr .u64 (w .u64 (w .i64 (x172.1 + x172.2))) 1)) + 1)), x172.2) H194)
 (J173 (x172.1, (w .i64 (sShr .u64 (w .u64 (w .i64 (x172.1 + x172.2))) 1))) H194)))
 (jn (α := Unit) (fun x197 H198 =>
 jn (α := Unit) (fun x204 H205 =>
 ift ((decide (((w .i64 (sShr .u64 (w .u64 (w .i64 (p_a + p_b))) 1)) : Int) < (w .i64 ((w .i64 ((w .i64 (sShr .u64 (w .u64 (w .i64 (p_a + p_b))) 1)) + p_m)) - x172.1)))) && (decide (((w .i64 ((w .i64 ((w .i64 (sShr .u64 (w .u64 (w .i64 (p_a + p_b))) 1)) + p_m)) - x172.1)) : Int) < p_b)))
 (c_slices_symMergeCmpFunc_api_Value C p_data (w .i64 (sShr .u64 (w .u64 (w .i64 (p_a + p_b))) 1)) (w .i64 ((w .i64 ((w .i64 (sShr .u64 (w .u64 (w .i64 (p_a + p_b))) 1)) + p_m)) - x172.1)) p_b p_cmp (fun H212 =>
 K H212) H205)
 (K H205))
 (fun J203 => ift ((decide ((p_a : Int) < x172.1)) && (decide ((x172.1 : Int) < (w .i64 (sShr .u64 (w .u64 (w .i64 (p_a + p_b))) 1)))))
 (c_slices_symMergeCmpFunc_api_Value C p_data p_a x172.1 (w .i64 (sShr .u64 (w .u64 (w .i64 (p_a + p_b))) 1)) p_cmp (fun H209 =>
 J203 () H209) H198)
 (J203 () H198)))
 (fun J196 => ift ((decide ((x172.1 : Int) < p_m)) && (decide ((p_m : Int) < (w .i64 ((w .i64 ((w .i64 (sShr .u64 (w .u64 (w .i64 (p_a + p_b))) 1)) + p_m)) - x172.1)))))
 (c_slices_rotateCmpFunc_api_Value C p_data x172.1 p_m (w .i64 ((w .i64 ((w .i64 (sShr .u64 (w .u64 (w .i64 (p_a + p_b))) 1)) + p_m)) - x172.1)) p_cmp (fun H202 =>
 J196 () H202) H174)
 (J196 () H174)))))
 (fun J167 => ift (decide ((p_m : Int) > (w .i64 (sShr .u64 (w .u64 (w .i64 (p_a + p_b))) 1))))
 (J167 ((w .i64 ((w .i64 ((w .i64 (sShr .u64 (w .u64 (w .i64 (p_a + p_b))) 1)) + p_m)) - p_b)), (w .i64 (sShr .u64 (w .u64 (w .i64 (p_a + p_b))) 1))) H)
 (J167 (p_a, p_m) H))))

theorem ad_slices_symMergeCmpFunc_api_Value (C : Ctx) (p_data : Sl) (p_a : Int) (p_m : Int) (p_b : Int) (p_cmp : Value) (K : Heap → Prop) (H : Heap) (h : sh_slices_symMergeCmpFunc_api_Value C p_data p_a p_m p_b p_cmp K H) : c_slices_symMergeCmpFunc_api_Value C p_data p_a p_m p_b p_cmp K H := by
  refine Spec.enter Tryd.func68 rfl Tryd.ntmps68 rfl ?_
  refine GC.sub [(0, slv p_data), (1, .int .i64 p_a), (2, .int .i64 p_m), (3, .int .i64 p_b), (4, p_cmp)] ⟨rfl, rfl, rfl, rfl, rfl, trivial⟩ ?_
  refine GC.seq ?_
  refine GC.seq ?_
  refine GC.region ?_
  refine GL.val trivial rfl (OV.move (v := .int .i64 p_m) rfl) ?_
  refine GL.val trivial rfl (OV.move (v := .int .i64 p_a) rfl) ?_
  refine GL.val trivial rfl (OV.ibin (v := .int .i64 (w .i64 (p_m - p_a))) rfl rfl rfl) ?_
  refine GL.val trivial rfl (OV.ibin (v := .bool (((w .i64 (p_m - p_a)) : Int) == 1)) rfl rfl rfl) ?_
  refine GL.nil ?_
  refine GC.cond (b := ((w .i64 (p_m - p_a)) : Int) == 1) rfl (fun hc1 => ?_) (fun hc1 => ?_)
  · replace h := And.left h hc1
    refine GC.seq ?_
    refine GC.region ?_
    refine GL.val trivial rfl (OV.move (v := .int .i64 p_m) rfl) ?_
    refine GL.val trivial rfl (OV.assign (v := .int .i64 p_m) rfl) ?_
    refine GL.nil ?_
    refine GC.seq ?_
    refine GC.region ?_
    refine GL.val trivial rfl (OV.move (v := .int .i64 p_b) rfl) ?_
    refine GL.val trivial rfl (OV.assign (v := .int .i64 p_b) rfl) ?_
    refine GL.nil ?_
    refine GC.seq ?_
    refine GC.block ?_
    refine GC.loop (α := Int × Int) h (fun x2 => [(10, .int .i64 x2.1), (11, .int .i64 x2.2), (0, slv p_data), (1, .int .i64 p_a), (4, p_cmp)]) ⟨rfl, rfl, rfl, rfl, rfl, trivial⟩ ?_
    intro x2 H4 J3 h
    refine GC.seq ?_
    refine GC.seq ?_
    refine GC.region ?_
    refine GL.val trivial rfl (OV.move (v := .int .i64 x2.1) rfl) ?_
    refine GL.val trivial rfl (OV.move (v := .int .i64 x2.2) rfl) ?_
    refine GL.val trivial rfl (OV.ibin (v := .bool (decide ((x2.1 : Int) < x2.2))) rfl rfl rfl) ?_
    refine GL.nil ?_
    refine GC.cond (b := decide ((x2.1 : Int) < x2.2)) rfl (fun hc5 => ?_) (fun hc5 => ?_)
    · replace h := And.left h hc5
      refine GC.skip ?_
      refine GC.block ?_
      refine GC.seq ?_
      refine GC.region ?_
      refine GL.val trivial rfl (OV.move (v := .int .i64 x2.1) rfl) ?_
      refine GL.val trivial rfl (OV.move (v := .int .i64 x2.2) rfl) ?_
      refine GL.val trivial rfl (OV.ibin (v := .int .i64 (w .i64 (x2.1 + x2.2))) rfl rfl rfl) ?_
      refine GL.val trivial rfl (OV.convInt rfl rfl rfl) ?_
      refine GL.val trivial rfl (OV.shr rfl rfl (by decide)) ?_
      refine GL.val trivial rfl (OV.convInt rfl rfl rfl) ?_
      refine GL.val trivial rfl (OV.assign (v := .int .i64 (w .i64 (sShr .u64 (w .u64 (w .i64 (x2.1 + x2.2))) 1))) rfl) ?_
      refine GL.nil ?_
      refine GC.seq ?_
      obtain ⟨Hs6, hle7, h⟩ := h
      refine GC.any (Hs := Hs6) (by kernel_rfl) hle7 ?_
      refine GA.take 0 rfl (by kernel_rfl) (by kernel_rfl) (by kernel_rfl) (fun _ _ _ h => False.elim h) trivial rfl (OV.move (v := p_cmp) rfl) ?_
      refine GA.take 1 rfl (by kernel_rfl) (by kernel_rfl) (by kernel_rfl) (fun _ _ _ h => False.elim h) trivial rfl (OV.move (v := slv p_data) rfl) ?_
      refine GA.take 2 rfl (by kernel_rfl) (by kernel_rfl) (by kernel_rfl) (fun _ _ _ h => False.elim h) trivial rfl (OV.move (v := .int .i64 (w .i64 (sShr .u64 (w .u64 (w .i64 (x2.1 + x2.2))) 1))) rfl) ?_
      obtain ⟨p8, ha9, hb10, hc11, hd12, h⟩ := h
      refine GA.take 3 rfl (by kernel_rfl) (by kernel_rfl) (by kernel_rfl) (fun _ _ _ h => False.elim h) trivial rfl (OV.indexAddr (s := p_data) rfl rfl rfl rfl ha9 hb10 hc11 hd12) ?_
      obtain ⟨x13, hr14, h⟩ := h
      refine GA.take 4 rfl (by kernel_rfl) (by kernel_rfl) (by kernel_rfl) (fun _ _ _ h => False.elim h) trivial rfl (OV.load (p := (p8.1, p8.2 + (w .i64 (sShr .u64 (w .u64 (w .i64 (x2.1 + x2.2))) 1) : Int).toNat * 1)) rfl rfl hr14) ?_
      refine GA.take 5 rfl (by kernel_rfl) (by kernel_rfl) (by kernel_rfl) (fun _ _ _ h => False.elim h) trivial rfl (OV.move (v := slv p_data) rfl) ?_
      refine GA.take 6 rfl (by kernel_rfl) (by kernel_rfl) (by kernel_rfl) (fun _ _ _ h => False.elim h) trivial rfl (OV.move (v := .int .i64 p_a) rfl) ?_
      obtain ⟨p15, ha16, hb17, hc18, hd19, h⟩ := h
      refine GA.take 7 rfl (by kernel_rfl) (by kernel_rfl) (by kernel_rfl) (fun _ _ _ h => False.elim h) trivial rfl (OV.indexAddr (s := p_data) rfl rfl rfl rfl ha16 hb17 hc18 hd19) ?_
      obtain ⟨x20, hr21, h⟩ := h
      refine GA.take 8 rfl (by kernel_rfl) (by kernel_rfl) (by kernel_rfl) (fun _ _ _ h => False.elim h) trivial rfl (OV.load (p := (p15.1, p15.2 + (p_a : Int).toNat * 1)) rfl rfl hr21) ?_
      refine GA.eff 9 rfl (by kernel_rfl) ?_
      refine GL.callU (xv := p_cmp) (vs := [slv x13, slv x20]) h trivial rfl rfl rfl ?_
      rintro _ H24 ⟨r23, rfl, h⟩
      obtain ⟨hle22, h⟩ := h
      refine GA.back hle22 ?_
      refine GA.take 10 rfl (by kernel_rfl) (by kernel_rfl) (by kernel_rfl) (fun _ _ _ h => False.elim h) trivial rfl (OV.ibin (v := .bool (decide ((r23 : Int) < 0))) rfl rfl rfl) ?_
      refine GA.done (by kernel_rfl) ?_
      refine GL.nil ?_
      refine GC.cond (b := decide ((r23 : Int) < 0)) rfl (fun hc25 => ?_) (fun hc25 => ?_)
      · replace h := And.left h hc25
        refine GC.region ?_
        refine GL.val trivial rfl (OV.move (v := .int .i64 (w .i64 (sShr .u64 (w .u64 (w .i64 (x2.1 + x2.2))) 1))) rfl) ?_
        refine GL.val trivial rfl (OV.ibin (v := .int .i64 (w .i64 ((w .i64 (sShr .u64 (w .u64 (w .i64 (x2.1 + x2.2))) 1)) + 1))) rfl rfl rfl) ?_
        refine GL.val trivial rfl (OV.assign (v := .int .i64 (w .i64 ((w .i64 (sShr .u64 (w .u64 (w .i64 (x2.1 + x2.2))) 1)) + 1))) rfl) ?_
        exact GL.jump (fun _ _ h => h) ((w .i64 ((w .i64 (sShr .u64 (w .u64 (w .i64 (x2.1 + x2.2))) 1)) + 1)), x2.2) h ⟨rfl, rfl, rfl, rfl, rfl, trivial⟩
      · replace h := And.right h hc25
        refine GC.region ?_
        refine GL.val trivial rfl (OV.move (v := .int .i64 (w .i64 (sShr .u64 (w .u64 (w .i64 (x2.1 + x2.2))) 1))) rfl) ?_
        refine GL.val trivial rfl (OV.assign (v := .int .i64 (w .i64 (sShr .u64 (w .u64 (w .i64 (x2.1 + x2.2))) 1))) rfl) ?_
        exact GL.jump (fun _ _ h => h) (x2.1, (w .i64 (sShr .u64 (w .u64 (w .i64 (x2.1 + x2.2))) 1))) h ⟨rfl, rfl, rfl, rfl, rfl, trivial⟩
    · replace h := And.right h hc5
      refine GC.exit_to (fun _ _ h => h) ?_
      refine GC.seq ?_
      refine GC.seq ?_
      refine GC.region ?_
      refine GL.val trivial rfl (OV.move (v := .int .i64 p_a) rfl) ?_
      refine GL.val trivial rfl (OV.assign (v := .int .i64 p_a) rfl) ?_
      refine GL.nil ?_
      refine GC.block ?_
      refine GC.loop (α := Int) h (fun x26 => [(13, .int .i64 x26), (0, slv p_data), (10, .int .i64 x2.1)]) ⟨rfl, rfl, rfl, trivial⟩ ?_
      intro x26 H28 J27 h
      refine GC.seq ?_
      refine GC.seq ?_
      refine GC.region ?_
      refine GL.val trivial rfl (OV.move (v := .int .i64 x26) rfl) ?_
      refine GL.val trivial rfl (OV.move (v := .int .i64 x2.1) rfl) ?_
      refine GL.val trivial rfl (OV.ibin (v := .int .i64 (w .i64 (x2.1 - 1))) rfl rfl rfl) ?_
      refine GL.val trivial rfl (OV.ibin (v := .bool (decide ((x26 : Int) < (w .i64 (x2.1 - 1))))) rfl rfl rfl) ?_
      refine GL.nil ?_
      refine GC.cond (b := decide ((x26 : Int) < (w .i64 (x2.1 - 1)))) rfl (fun hc29 => ?_) (fun hc29 => ?_)
      · replace h := And.left h hc29
        refine GC.skip ?_
        refine GC.seq ?_
        refine GC.block ?_
        obtain ⟨J30, h, hR33⟩ := h
        refine GC.meet (α := Unit) J30 (fun _ => [(0, slv p_data), (10, .int .i64 x2.1), (13, .int .i64 x26)]) ?_ ?_
        · skip
          obtain ⟨Hs34, hle35, h⟩ := h
          refine GC.tail (Hs := Hs34) 17 (by kernel_rfl) hle35 (by kernel_rfl) ?_
          refine GT.take 0 rfl (by kernel_rfl) (by kernel_rfl) (by kernel_rfl) rfl (fun _ _ _ h => False.elim h) trivial rfl (OV.move (v := slv p_data) rfl) ?_
          refine GT.take 1 rfl (by kernel_rfl) (by kernel_rfl) (by kernel_rfl) rfl (fun _ _ _ h => False.elim h) trivial rfl (OV.move (v := .int .i64 x26) rfl) ?_
          refine GT.take 2 rfl (by kernel_rfl) (by kernel_rfl) (by kernel_rfl) rfl (fun _ _ _ h => False.elim h) trivial rfl (OV.move (v := slv p_data) rfl) ?_
          refine GT.take 3 rfl (by kernel_rfl) (by kernel_rfl) (by kernel_rfl) rfl (fun _ _ _ h => False.elim h) trivial rfl (OV.move (v := .int .i64 x26) rfl) ?_
          refine GT.take 4 rfl (by kernel_rfl) (by kernel_rfl) (by kernel_rfl) rfl (fun _ _ _ h => False.elim h) trivial rfl (OV.ibin (v := .int .i64 (w .i64 (x26 + 1))) rfl rfl rfl) ?_
          refine GT.take 5 rfl (by kernel_rfl) (by kernel_rfl) (by kernel_rfl) rfl (fun _ _ _ h => False.elim h) trivial rfl (OV.move (v := slv p_data) rfl) ?_
          refine GT.take 6 rfl (by kernel_rfl) (by kernel_rfl) (by kernel_rfl) rfl (fun _ _ _ h => False.elim h) trivial rfl (OV.move (v := .int .i64 x26) rfl) ?_
          refine GT.take 7 rfl (by kernel_rfl) (by kernel_rfl) (by kernel_rfl) rfl (fun _ _ _ h => False.elim h) trivial rfl (OV.ibin (v := .int .i64 (w .i64 (x26 + 1))) rfl rfl rfl) ?_
          obtain ⟨p36, ha37, hb38, hc39, hd40, h⟩ := h
          refine GT.take 8 rfl (by kernel_rfl) (by kernel_rfl) (by kernel_rfl) rfl (fun _ _ _ h => False.elim h) trivial rfl (OV.indexAddr (s := p_data) rfl rfl rfl rfl ha37 hb38 hc39 hd40) ?_
          refine GT.take 10 rfl (by kernel_rfl) (by kernel_rfl) (by kernel_rfl) rfl (fun _ _ _ h => False.elim h) trivial rfl (OV.move (v := slv p_data) rfl) ?_
          refine GT.take 11 rfl (by kernel_rfl) (by kernel_rfl) (by kernel_rfl) rfl (fun _ _ _ h => False.elim h) trivial rfl (OV.move (v := .int .i64 x26) rfl) ?_
          obtain ⟨p41, ha42, hb43, hc44, hd45, h⟩ := h
          refine GT.take 12 rfl (by kernel_rfl) (by kernel_rfl) (by kernel_rfl) rfl (fun _ _ _ h => False.elim h) trivial rfl (OV.indexAddr (s := p_data) rfl rfl rfl rfl ha42 hb43 hc44 hd45) ?_
          refine GT.effs [9, 13] (by kernel_rfl) (by simp) (List.forall_mem_cons.2 ⟨⟨_, rfl, rfl, ?_⟩, List.forall_mem_cons.2 ⟨⟨_, rfl, rfl, ?_⟩, fun _ h => by cases h⟩⟩)
          · replace h := h.1
            obtain ⟨x47, hr48, h⟩ := h
            refine GL.val trivial rfl (OV.load (p := (p36.1, p36.2 + (w .i64 (x26 + 1) : Int).toNat * 1)) rfl rfl hr48) ?_
            obtain ⟨hle46, h⟩ := h
            refine GT.back hle46 ?_
            refine GT.eff 13 rfl (by kernel_rfl) rfl ?_
            obtain ⟨x50, hr51, h⟩ := h
            refine GL.val trivial rfl (OV.load (p := (p41.1, p41.2 + (x26 : Int).toNat * 1)) rfl rfl hr51) ?_
            obtain ⟨hle49, h⟩ := h
            refine GT.back hle49 ?_
            obtain ⟨p52, ha53, hb54, hc55, hd56, h⟩ := h
            refine GT.take 14 rfl (by kernel_rfl) (by kernel_rfl) (by kernel_rfl) rfl (fun _ _ _ h => False.elim h) trivial rfl (OV.indexAddr (s := p_data) rfl rfl rfl rfl ha53 hb54 hc55 hd56) ?_
            refine GT.eff 15 rfl (by kernel_rfl) rfl ?_
            refine GL.store (p := (p52.1, p52.2 + (x26 : Int).toNat * 1)) (v := slv x47) h trivial rfl rfl rfl rfl ?_
            intro H58 h
            obtain ⟨hle57, h⟩ := h
            refine GT.back hle57 ?_
            obtain ⟨p59, ha60, hb61, hc62, hd63, h⟩ := h
            refine GT.take 16 rfl (by kernel_rfl) (by kernel_rfl) (by kernel_rfl) rfl (fun _ _ _ h => False.elim h) trivial rfl (OV.indexAddr (s := p_data) rfl rfl rfl rfl ha60 hb61 hc62 hd63) ?_
            refine GT.done (by kernel_rfl) ?_
            show GL _ _ _ _ _ [_] _ _
            refine GL.store (p := (p59.1, p59.2 + (w .i64 (x26 + 1) : Int).toNat * 1)) (v := slv x50) h trivial rfl rfl rfl rfl ?_
            intro H64 h
            exact GL.jump (fun _ _ h => h) () h ⟨rfl, rfl, rfl, trivial⟩
          · replace h := h.2
            obtain ⟨x66, hr67, h⟩ := h
            refine GL.val trivial rfl (OV.load (p := (p41.1, p41.2 + (x26 : Int).toNat * 1)) rfl rfl hr67) ?_
            obtain ⟨hle65, h⟩ := h
            refine GT.back hle65 ?_
            refine GT.eff 9 rfl (by kernel_rfl) rfl ?_
            obtain ⟨x69, hr70, h⟩ := h
            refine GL.val trivial rfl (OV.load (p := (p36.1, p36.2 + (w .i64 (x26 + 1) : Int).toNat * 1)) rfl rfl hr70) ?_
            obtain ⟨hle68, h⟩ := h
            refine GT.back hle68 ?_
            obtain ⟨p71, ha72, hb73, hc74, hd75, h⟩ := h
            refine GT.take 14 rfl (by kernel_rfl) (by kernel_rfl) (by kernel_rfl) rfl (fun _ _ _ h => False.elim h) trivial rfl (OV.indexAddr (s := p_data) rfl rfl rfl rfl ha72 hb73 hc74 hd75) ?_
            refine GT.eff 15 rfl (by kernel_rfl) rfl ?_
            refine GL.store (p := (p71.1, p71.2 + (x26 : Int).toNat * 1)) (v := slv x69) h trivial rfl rfl rfl rfl ?_
            intro H77 h
            obtain ⟨hle76, h⟩ := h
            refine GT.back hle76 ?_
            obtain ⟨p78, ha79, hb80, hc81, hd82, h⟩ := h
            refine GT.take 16 rfl (by kernel_rfl) (by kernel_rfl) (by kernel_rfl) rfl (fun _ _ _ h => False.elim h) trivial rfl (OV.indexAddr (s := p_data) rfl rfl rfl rfl ha79 hb80 hc81 hd82) ?_
            refine GT.done (by kernel_rfl) ?_
            show GL _ _ _ _ _ [_] _ _
            refine GL.store (p := (p78.1, p78.2 + (w .i64 (x26 + 1) : Int).toNat * 1)) (v := slv x66) h trivial rfl rfl rfl rfl ?_
            intro H83 h
            exact GL.jump (fun _ _ h => h) () h ⟨rfl, rfl, rfl, trivial⟩
        · intro x31 H32 h
          replace h := hR33 x31 H32 h
          refine GL.nil_to (fun _ _ h => h) ?_
          refine GC.region ?_
          refine GL.val trivial rfl (OV.move (v := .int .i64 x26) rfl) ?_
          refine GL.val trivial rfl (OV.ibin (v := .int .i64 (w .i64 (x26 + 1))) rfl rfl rfl) ?_
          refine GL.val trivial rfl (OV.assign (v := .int .i64 (w .i64 (x26 + 1))) rfl) ?_
          exact GL.jump (fun _ _ h => h) (w .i64 (x26 + 1)) h ⟨rfl, rfl, rfl, trivial⟩
      · replace h := And.right h hc29
        refine GC.exit_to (fun _ _ h => h) ?_
        exact GC.ret (fun _ _ hf hs => post_tmp0 rfl hf hs ⟨rfl, h⟩)
  · replace h := And.right h hc1
    refine GC.skip ?_
    refine GC.seq ?_
    refine GC.seq ?_
    refine GC.region ?_
    refine GL.val trivial rfl (OV.move (v := .int .i64 p_b) rfl) ?_
    refine GL.val trivial rfl (OV.move (v := .int .i64 p_m) rfl) ?_
    refine GL.val trivial rfl (OV.ibin (v := .int .i64 (w .i64 (p_b - p_m))) rfl rfl rfl) ?_
    refine GL.val trivial rfl (OV.ibin (v := .bool (((w .i64 (p_b - p_m)) : Int) == 1)) rfl rfl rfl) ?_
    refine GL.nil ?_
    refine GC.cond (b := ((w .i64 (p_b - p_m)) : Int) == 1) rfl (fun hc84 => ?_) (fun hc84 => ?_)
    · replace h := And.left h hc84
      refine GC.seq ?_
      refine GC.region ?_
      refine GL.val trivial rfl (OV.move (v := .int .i64 p_a) rfl) ?_
      refine GL.val trivial rfl (OV.assign (v := .int .i64 p_a) rfl) ?_
      refine GL.nil ?_
      refine GC.seq ?_
      refine GC.region ?_
      refine GL.val trivial rfl (OV.move (v := .int .i64 p_m) rfl) ?_
      refine GL.val trivial rfl (OV.assign (v := .int .i64 p_m) rfl) ?_
      refine GL.nil ?_
      refine GC.seq ?_
      refine GC.block ?_
      refine GC.loop (α := Int × Int) h (fun x85 => [(14, .int .i64 x85.1), (15, .int .i64 x85.2), (0, slv p_data), (2, .int .i64 p_m), (4, p_cmp)]) ⟨rfl, rfl, rfl, rfl, rfl, trivial⟩ ?_
      intro x85 H87 J86 h
      refine GC.seq ?_
      refine GC.seq ?_
      refine GC.region ?_
      refine GL.val trivial rfl (OV.move (v := .int .i64 x85.1) rfl) ?_
      refine GL.val trivial rfl (OV.move (v := .int .i64 x85.2) rfl) ?_
      refine GL.val trivial rfl (OV.ibin (v := .bool (decide ((x85.1 : Int) < x85.2))) rfl rfl rfl) ?_
      refine GL.nil ?_
      refine GC.cond (b := decide ((x85.1 : Int) < x85.2)) rfl (fun hc88 => ?_) (fun hc88 => ?_)
      · replace h := And.left h hc88
        refine GC.skip ?_
        refine GC.block ?_
        refine GC.seq ?_
        refine GC.region ?_
        refine GL.val trivial rfl (OV.move (v := .int .i64 x85.1) rfl) ?_
        refine GL.val trivial rfl (OV.move (v := .int .i64 x85.2) rfl) ?_
        refine GL.val trivial rfl (OV.ibin (v := .int .i64 (w .i64 (x85.1 + x85.2))) rfl rfl rfl) ?_
        refine GL.val trivial rfl (OV.convInt rfl rfl rfl) ?_
        refine GL.val trivial rfl (OV.shr rfl rfl (by decide)) ?_
        refine GL.val trivial rfl (OV.convInt rfl rfl rfl) ?_
        refine GL.val trivial rfl (OV.assign (v := .int .i64 (w .i64 (sShr .u64 (w .u64 (w .i64 (x85.1 + x85.2))) 1))) rfl) ?_
        refine GL.nil ?_
        refine GC.seq ?_
        obtain ⟨Hs89, hle90, h⟩ := h
        refine GC.any (Hs := Hs89) (by kernel_rfl) hle90 ?_
        refine GA.take 0 rfl (by kernel_rfl) (by kernel_rfl) (by kernel_rfl) (fun _ _ _ h => False.elim h) trivial rfl (OV.move (v := p_cmp) rfl) ?_
        refine GA.take 1 rfl (by kernel_rfl) (by kernel_rfl) (by kernel_rfl) (fun _ _ _ h => False.elim h) trivial rfl (OV.move (v := slv p_data) rfl) ?_
        refine GA.take 2 rfl (by kernel_rfl) (by kernel_rfl) (by kernel_rfl) (fun _ _ _ h => False.elim h) trivial rfl (OV.move (v := .int .i64 p_m) rfl) ?_
        obtain ⟨p91, ha92, hb93, hc94, hd95, h⟩ := h
        refine GA.take 3 rfl (by kernel_rfl) (by kernel_rfl) (by kernel_rfl) (fun _ _ _ h => False.elim h) trivial rfl (OV.indexAddr (s := p_data) rfl rfl rfl rfl ha92 hb93 hc94 hd95) ?_
        obtain ⟨x96, hr97, h⟩ := h
        refine GA.take 4 rfl (by kernel_rfl) (by kernel_rfl) (by kernel_rfl) (fun _ _ _ h => False.elim h) trivial rfl (OV.load (p := (p91.1, p91.2 + (p_m : Int).toNat * 1)) rfl rfl hr97) ?_
        refine GA.take 5 rfl (by kernel_rfl) (by kernel_rfl) (by kernel_rfl) (fun _ _ _ h => False.elim h) trivial rfl (OV.move (v := slv p_data) rfl) ?_
        refine GA.take 6 rfl (by kernel_rfl) (by kernel_rfl) (by kernel_rfl) (fun _ _ _ h => False.elim h) trivial rfl (OV.move (v := .int .i64 (w .i64 (sShr .u64 (w .u64 (w .i64 (x85.1 + x85.2))) 1))) rfl) ?_
        obtain ⟨p98, ha99, hb100, hc101, hd102, h⟩ := h
        refine GA.take 7 rfl (by kernel_rfl) (by kernel_rfl) (by kernel_rfl) (fun _ _ _ h => False.elim h) trivial rfl (OV.indexAddr (s := p_data) rfl rfl rfl rfl ha99 hb100 hc101 hd102) ?_
        obtain ⟨x103, hr104, h⟩ := h
        refine GA.take 8 rfl (by kernel_rfl) (by kernel_rfl) (by kernel_rfl) (fun _ _ _ h => False.elim h) trivial rfl (OV.load (p := (p98.1, p98.2 + (w .i64 (sShr .u64 (w .u64 (w .i64 (x85.1 + x85.2))) 1) : Int).toNat * 1)) rfl rfl hr104) ?_
        refine GA.eff 9 rfl (by kernel_rfl) ?_
        refine GL.callU (xv := p_cmp) (vs := [slv x96, slv x103]) h trivial rfl rfl rfl ?_
        rintro _ H107 ⟨r106, rfl, h⟩
        obtain ⟨hle105, h⟩ := h
        refine GA.back hle105 ?_
        refine GA.take 10 rfl (by kernel_rfl) (by kernel_rfl) (by kernel_rfl) (fun _ _ _ h => False.elim h) trivial rfl (OV.ibin (v := .bool (decide ((r106 : Int) < 0))) rfl rfl rfl) ?_
        refine GA.take 11 rfl (by kernel_rfl) (by kernel_rfl) (by kernel_rfl) (fun _ _ _ h => False.elim h) trivial rfl (OV.not rfl) ?_
        refine GA.done (by kernel_rfl) ?_
        refine GL.nil ?_
        refine GC.cond (b := !(decide ((r106 : Int) < 0))) rfl (fun hc108 => ?_) (fun hc108 => ?_)
        · replace h := And.left h hc108
          refine GC.region ?_
          refine GL.val trivial rfl (OV.move (v := .int .i64 (w .i64 (sShr .u64 (w .u64 (w .i64 (x85.1 + x85.2))) 1))) rfl) ?_
          refine GL.val trivial rfl (OV.ibin (v := .int .i64 (w .i64 ((w .i64 (sShr .u64 (w .u64 (w .i64 (x85.1 + x85.2))) 1)) + 1))) rfl rfl rfl) ?_
          refine GL.val trivial rfl (OV.assign (v := .int .i64 (w .i64 ((w .i64 (sShr .u64 (w .u64 (w .i64 (x85.1 + x85.2))) 1)) + 1))) rfl) ?_
          exact GL.jump (fun _ _ h => h) ((w .i64 ((w .i64 (sShr .u64 (w .u64 (w .i64 (x85.1 + x85.2))) 1)) + 1)), x85.2) h ⟨rfl, rfl, rfl, rfl, rfl, trivial⟩
        · replace h := And.right h hc108
          refine GC.region ?_
          refine GL.val trivial rfl (OV.move (v := .int .i64 (w .i64 (sShr .u64 (w .u64 (w .i64 (x85.1 + x85.2))) 1))) rfl) ?_
          refine GL.val trivial rfl (OV.assign (v := .int .i64 (w .i64 (sShr .u64 (w .u64 (w .i64 (x85.1 + x85.2))) 1))) rfl) ?_
          exact GL.jump (fun _ _ h => h) (x85.1, (w .i64 (sShr .u64 (w .u64 (w .i64 (x85.1 + x85.2))) 1))) h ⟨rfl, rfl, rfl, rfl, rfl, trivial⟩
      · replace h := And.right h hc88
        refine GC.exit_to (fun _ _ h => h) ?_
        refine GC.seq ?_
        refine GC.seq ?_
        refine GC.region ?_
        refine GL.val trivial rfl (OV.move (v := .int .i64 p_m) rfl) ?_
        refine GL.val trivial rfl (OV.assign (v := .int .i64 p_m) rfl) ?_
        refine GL.nil ?_
        refine GC.block ?_
        refine GC.loop (α := Int) h (fun x109 => [(17, .int .i64 x109), (0, slv p_data), (14, .int .i64 x85.1)]) ⟨rfl, rfl, rfl, trivial⟩ ?_
        intro x109 H111 J110 h
        refine GC.seq ?_
        refine GC.seq ?_
        refine GC.region ?_
        refine GL.val trivial rfl (OV.move (v := .int .i64 x109) rfl) ?_
        refine GL.val trivial rfl (OV.move (v := .int .i64 x85.1) rfl) ?_
        refine GL.val trivial rfl (OV.ibin (v := .bool (decide ((x109 : Int) > x85.1))) rfl rfl rfl) ?_
        refine GL.nil ?_
        refine GC.cond (b := decide ((x109 : Int) > x85.1)) rfl (fun hc112 => ?_) (fun hc112 => ?_)
        · replace h := And.left h hc112
          refine GC.skip ?_
          refine GC.seq ?_
          refine GC.block ?_
          obtain ⟨J113, h, hR116⟩ := h
          refine GC.meet (α := Unit) J113 (fun _ => [(0, slv p_data), (14, .int .i64 x85.1), (17, .int .i64 x109)]) ?_ ?_
          · skip
            obtain ⟨Hs117, hle118, h⟩ := h
            refine GC.tail (Hs := Hs117) 17 (by kernel_rfl) hle118 (by kernel_rfl) ?_
            refine GT.take 0 rfl (by kernel_rfl) (by kernel_rfl) (by kernel_rfl) rfl (fun _ _ _ h => False.elim h) trivial rfl (OV.move (v := slv p_data) rfl) ?_
            refine GT.take 1 rfl (by kernel_rfl) (by kernel_rfl) (by kernel_rfl) rfl (fun _ _ _ h => False.elim h) trivial rfl (OV.move (v := .int .i64 x109) rfl) ?_
            refine GT.take 2 rfl (by kernel_rfl) (by kernel_rfl) (by kernel_rfl) rfl (fun _ _ _ h => False.elim h) trivial rfl (OV.move (v := slv p_data) rfl) ?_
            refine GT.take 3 rfl (by kernel_rfl) (by kernel_rfl) (by kernel_rfl) rfl (fun _ _ _ h => False.elim h) trivial rfl (OV.move (v := .int .i64 x109) rfl) ?_
            refine GT.take 4 rfl (by kernel_rfl) (by kernel_rfl) (by kernel_rfl) rfl (fun _ _ _ h => False.elim h) trivial rfl (OV.ibin (v := .int .i64 (w .i64 (x109 - 1))) rfl rfl rfl) ?_
            refine GT.take 5 rfl (by kernel_rfl) (by kernel_rfl) (by kernel_rfl) rfl (fun _ _ _ h => False.elim h) trivial rfl (OV.move (v := slv p_data) rfl) ?_
            refine GT.take 6 rfl (by kernel_rfl) (by kernel_rfl) (by kernel_rfl) rfl (fun _ _ _ h => False.elim h) trivial rfl (OV.move (v := .int .i64 x109) rfl) ?_
            refine GT.take 7 rfl (by kernel_rfl) (by kernel_rfl) (by kernel_rfl) rfl (fun _ _ _ h => False.elim h) trivial rfl (OV.ibin (v := .int .i64 (w .i64 (x109 - 1))) rfl rfl rfl) ?_
            obtain ⟨p119, ha120, hb121, hc122, hd123, h⟩ := h
            refine GT.take 8 rfl (by kernel_rfl) (by kernel_rfl) (by kernel_rfl) rfl (fun _ _ _ h => False.elim h) trivial rfl (OV.indexAddr (s := p_data) rfl rfl rfl rfl ha120 hb121 hc122 hd123) ?_
            refine GT.take 10 rfl (by kernel_rfl) (by kernel_rfl) (by kernel_rfl) rfl (fun _ _ _ h => False.elim h) trivial rfl (OV.move (v := slv p_data) rfl) ?_
            refine GT.take 11 rfl (by kernel_rfl) (by kernel_rfl) (by kernel_rfl) rfl (fun _ _ _ h => False.elim h) trivial rfl (OV.move (v := .int .i64 x109) rfl) ?_
            obtain ⟨p124, ha125, hb126, hc127, hd128, h⟩ := h
            refine GT.take 12 rfl (by kernel_rfl) (by kernel_rfl) (by kernel_rfl) rfl (fun _ _ _ h => False.elim h) trivial rfl (OV.indexAddr (s := p_data) rfl rfl rfl rfl ha125 hb126 hc127 hd128) ?_
            refine GT.effs [9, 13] (by kernel_rfl) (by simp) (List.forall_mem_cons.2 ⟨⟨_, rfl, rfl, ?_⟩, List.forall_mem_cons.2 ⟨⟨_, rfl, rfl, ?_⟩, fun _ h => by cases h⟩⟩)
            · replace h := h.1
              obtain ⟨x130, hr131, h⟩ := h
              refine GL.val trivial rfl (OV.load (p := (p119.1, p119.2 + (w .i64 (x109 - 1) : Int).toNat * 1)) rfl rfl hr131) ?_
              obtain ⟨hle129, h⟩ := h
              refine GT.back hle129 ?_
              refine GT.eff 13 rfl (by kernel_rfl) rfl ?_
              obtain ⟨x133, hr134, h⟩ := h
              refine GL.val trivial rfl (OV.load (p := (p124.1, p124.2 + (x109 : Int).toNat * 1)) rfl rfl hr134) ?_
              obtain ⟨hle132, h⟩ := h
              refine GT.back hle132 ?_
              obtain ⟨p135, ha136, hb137, hc138, hd139, h⟩ := h
              refine GT.take 14 rfl (by kernel_rfl) (by kernel_rfl) (by kernel_rfl) rfl (fun _ _ _ h => False.elim h) trivial rfl (OV.indexAddr (s := p_data) rfl rfl rfl rfl ha136 hb137 hc138 hd139) ?_
              refine GT.eff 15 rfl (by kernel_rfl) rfl ?_
              refine GL.store (p := (p135.1, p135.2 + (x109 : Int).toNat * 1)) (v := slv x130) h trivial rfl rfl rfl rfl ?_
              intro H141 h
              obtain ⟨hle140, h⟩ := h
              refine GT.back hle140 ?_
              obtain ⟨p142, ha143, hb144, hc145, hd146, h⟩ := h
              refine GT.take 16 rfl (by kernel_rfl) (by kernel_rfl) (by kernel_rfl) rfl (fun _ _ _ h => False.elim h) trivial rfl (OV.indexAddr (s := p_data) rfl rfl rfl rfl ha143 hb144 hc145 hd146) ?_
              refine GT.done (by kernel_rfl) ?_
              show GL _ _ _ _ _ [_] _ _
              refine GL.store (p := (p142.1, p142.2 + (w .i64 (x109 - 1) : Int).toNat * 1)) (v := slv x133) h trivial rfl rfl rfl rfl ?_
              intro H147 h
              exact GL.jump (fun _ _ h => h) () h ⟨rfl, rfl, rfl, trivial⟩
            · replace h := h.2
              obtain ⟨x149, hr150, h⟩ := h
              refine GL.val trivial rfl (OV.load (p := (p124.1, p124.2 + (x109 : Int).toNat * 1)) rfl rfl hr150) ?_
              obtain ⟨hle148, h⟩ := h
              refine GT.back hle148 ?_
              refine GT.eff 9 rfl (by kernel_rfl) rfl ?_
              obtain ⟨x152, hr153, h⟩ := h
              refine GL.val trivial rfl (OV.load (p := (p119.1, p119.2 + (w .i64 (x109 - 1) : Int).toNat * 1)) rfl rfl hr153) ?_
              obtain ⟨hle151, h⟩ := h
              refine GT.back hle151 ?_
              obtain ⟨p154, ha155, hb156, hc157, hd158, h⟩ := h
              refine GT.take 14 rfl (by kernel_rfl) (by kernel_rfl) (by kernel_rfl) rfl (fun _ _ _ h => False.elim h) trivial rfl (OV.indexAddr (s := p_data) rfl rfl rfl rfl ha155 hb156 hc157 hd158) ?_
              refine GT.eff 15 rfl (by kernel_rfl) rfl ?_
              refine GL.store (p := (p154.1, p154.2 + (x109 : Int).toNat * 1)) (v := slv x152) h trivial rfl rfl rfl rfl ?_
              intro H160 h
              obtain ⟨hle159, h⟩ := h
              refine GT.back hle159 ?_
              obtain ⟨p161, ha162, hb163, hc164, hd165, h⟩ := h
              refine GT.take 16 rfl (by kernel_rfl) (by kernel_rfl) (by kernel_rfl) rfl (fun _ _ _ h => False.elim h) trivial rfl (OV.indexAddr (s := p_data) rfl rfl rfl rfl ha162 hb163 hc164 hd165) ?_
              refine GT.done (by kernel_rfl) ?_
              show GL _ _ _ _ _ [_] _ _
              refine GL.store (p := (p161.1, p161.2 + (w .i64 (x109 - 1) : Int).toNat * 1)) (v := slv x149) h trivial rfl rfl rfl rfl ?_
              intro H166 h
              exact GL.jump (fun _ _ h => h) () h ⟨rfl, rfl, rfl, trivial⟩
          · intro x114 H115 h
            replace h := hR116 x114 H115 h
            refine GL.nil_to (fun _ _ h => h) ?_
            refine GC.region ?_
            refine GL.val trivial rfl (OV.move (v := .int .i64 x109) rfl) ?_
            refine GL.val trivial rfl (OV.ibin (v := .int .i64 (w .i64 (x109 - 1))) rfl rfl rfl) ?_
            refine GL.val trivial rfl (OV.assign (v := .int .i64 (w .i64 (x109 - 1))) rfl) ?_
            exact GL.jump (fun _ _ h => h) (w .i64 (x109 - 1)) h ⟨rfl, rfl, rfl, trivial⟩
        · replace h := And.right h hc112
          refine GC.exit_to (fun _ _ h => h) ?_
          exact GC.ret (fun _ _ hf hs => post_tmp0 rfl hf hs ⟨rfl, h⟩)
    · replace h := And.right h hc84
      refine GC.skip ?_
      refine GC.seq ?_
      refine GC.region ?_
      refine GL.val trivial rfl (OV.move (v := .int .i64 p_a) rfl) ?_
      refine GL.val trivial rfl (OV.move (v := .int .i64 p_b) rfl) ?_
      refine GL.val trivial rfl (OV.ibin (v := .int .i64 (w .i64 (p_a + p_b))) rfl rfl rfl) ?_
      refine GL.val trivial rfl (OV.convInt rfl rfl rfl) ?_
      refine GL.val trivial rfl (OV.shr rfl rfl (by decide)) ?_
      refine GL.val trivial rfl (OV.convInt rfl rfl rfl) ?_
      refine GL.val trivial rfl (OV.assign (v := .int .i64 (w .i64 (sShr .u64 (w .u64 (w .i64 (p_a + p_b))) 1))) rfl) ?_
      refine GL.nil ?_
      refine GC.seq ?_
      refine GC.region ?_
      refine GL.val trivial rfl (OV.move (v := .int .i64 (w .i64 (sShr .u64 (w .u64 (w .i64 (p_a + p_b))) 1))) rfl) ?_
      refine GL.val trivial rfl (OV.move (v := .int .i64 p_m) rfl) ?_
      refine GL.val trivial rfl (OV.ibin (v := .int .i64 (w .i64 ((w .i64 (sShr .u64 (w .u64 (w .i64 (p_a + p_b))) 1)) + p_m))) rfl rfl rfl) ?_
      refine GL.val trivial rfl (OV.assign (v := .int .i64 (w .i64 ((w .i64 (sShr .u64 (w .u64 (w .i64 (p_a + p_b))) 1)) + p_m))) rfl) ?_
      refine GL.nil ?_
      refine GC.seq ?_
      refine GC.region ?_
      refine GL.val trivial rfl (OV.assign (v := .int .i64 0) rfl) ?_
      refine GL.val trivial rfl (OV.assign (v := .int .i64 0) rfl) ?_
      refine GL.nil ?_
      obtain ⟨J167, h, hR170⟩ := h
      refine GC.join (α := Int × Int) J167 (fun x168 => [(20, .int .i64 x168.1), (21, .int .i64 x168.2), (0, slv p_data), (1, .int .i64 p_a), (2, .int .i64 p_m), (3, .int .i64 p_b), (4, p_cmp), (18, .int .i64 (w .i64 (sShr .u64 (w .u64 (w .i64 (p_a + p_b))) 1))), (19, .int .i64 (w .i64 ((w .i64 (sShr .u64 (w .u64 (w .i64 (p_a + p_b))) 1)) + p_m)))]) ?_ ?_
      · skip
        refine GC.seq ?_
        refine GC.region ?_
        refine GL.val trivial rfl (OV.move (v := .int .i64 p_m) rfl) ?_
        refine GL.val trivial rfl (OV.move (v := .int .i64 (w .i64 (sShr .u64 (w .u64 (w .i64 (p_a + p_b))) 1))) rfl) ?_
        refine GL.val trivial rfl (OV.ibin (v := .bool (decide ((p_m : Int) > (w .i64 (sShr .u64 (w .u64 (w .i64 (p_a + p_b))) 1))))) rfl rfl rfl) ?_
        refine GL.nil ?_
        refine GC.cond (b := decide ((p_m : Int) > (w .i64 (sShr .u64 (w .u64 (w .i64 (p_a + p_b))) 1)))) rfl (fun hc171 => ?_) (fun hc171 => ?_)
        · replace h := And.left h hc171
          refine GC.seq ?_
          refine GC.region ?_
          refine GL.val trivial rfl (OV.move (v := .int .i64 (w .i64 ((w .i64 (sShr .u64 (w .u64 (w .i64 (p_a + p_b))) 1)) + p_m))) rfl) ?_
          refine GL.val trivial rfl (OV.move (v := .int .i64 p_b) rfl) ?_
          refine GL.val trivial rfl (OV.ibin (v := .int .i64 (w .i64 ((w .i64 ((w .i64 (sShr .u64 (w .u64 (w .i64 (p_a + p_b))) 1)) + p_m)) - p_b))) rfl rfl rfl) ?_
          refine GL.val trivial rfl (OV.assign (v := .int .i64 (w .i64 ((w .i64 ((w .i64 (sShr .u64 (w .u64 (w .i64 (p_a + p_b))) 1)) + p_m)) - p_b))) rfl) ?_
          refine GL.nil ?_
          refine GC.region ?_
          refine GL.val trivial rfl (OV.move (v := .int .i64 (w .i64 (sShr .u64 (w .u64 (w .i64 (p_a + p_b))) 1))) rfl) ?_
          refine GL.val trivial rfl (OV.assign (v := .int .i64 (w .i64 (sShr .u64 (w .u64 (w .i64 (p_a + p_b))) 1))) rfl) ?_
          exact GL.jump (fun _ _ h => h) ((w .i64 ((w .i64 ((w .i64 (sShr .u64 (w .u64 (w .i64 (p_a + p_b))) 1)) + p_m)) - p_b)), (w .i64 (sShr .u64 (w .u64 (w .i64 (p_a + p_b))) 1))) h ⟨rfl, rfl, rfl, rfl, rfl, rfl, rfl, rfl, rfl, trivial⟩
        · replace h := And.right h hc171
          refine GC.seq ?_
          refine GC.region ?_
          refine GL.val trivial rfl (OV.move (v := .int .i64 p_a) rfl) ?_
          refine GL.val trivial rfl (OV.assign (v := .int .i64 p_a) rfl) ?_
          refine GL.nil ?_
          refine GC.region ?_
          refine GL.val trivial rfl (OV.move (v := .int .i64 p_m) rfl) ?_
          refine GL.val trivial rfl (OV.assign (v := .int .i64 p_m) rfl) ?_
          exact GL.jump (fun _ _ h => h) (p_a, p_m) h ⟨rfl, rfl, rfl, rfl, rfl, rfl, rfl, rfl, rfl, trivial⟩
      · intro x168 H169 h
        replace h := hR170 x168 H169 h
        refine GC.seq ?_
        refine GC.region ?_
        refine GL.val trivial rfl (OV.move (v := .int .i64 (w .i64 ((w .i64 (sShr .u64 (w .u64 (w .i64 (p_a + p_b))) 1)) + p_m))) rfl) ?_
        refine GL.val trivial rfl (OV.ibin (v := .int .i64 (w .i64 ((w .i64 ((w .i64 (sShr .u64 (w .u64 (w .i64 (p_a + p_b))) 1)) + p_m)) - 1))) rfl rfl rfl) ?_
        refine GL.val trivial rfl (OV.assign (v := .int .i64 (w .i64 ((w .i64 ((w .i64 (sShr .u64 (w .u64 (w .i64 (p_a + p_b))) 1)) + p_m)) - 1))) rfl) ?_
        refine GL.nil ?_
        refine GC.seq ?_
        refine GC.block ?_
        refine GC.loop (α := Int × Int) h (fun x172 => [(20, .int .i64 x172.1), (21, .int .i64 x172.2), (0, slv p_data), (1, .int .i64 p_a), (2, .int .i64 p_m), (3, .int .i64 p_b), (4, p_cmp), (18, .int .i64 (w .i64 (sShr .u64 (w .u64 (w .i64 (p_a + p_b))) 1))), (19, .int .i64 (w .i64 ((w .i64 (sShr .u64 (w .u64 (w .i64 (p_a + p_b))) 1)) + p_m))), (22, .int .i64 (w .i64 ((w .i64 ((w .i64 (sShr .u64 (w .u64 (w .i64 (p_a + p_b))) 1)) + p_m)) - 1)))]) ⟨rfl, rfl, rfl, rfl, rfl, rfl, rfl, rfl, rfl, rfl, trivial⟩ ?_
        intro x172 H174 J173 h
        refine GC.seq ?_
        refine GC.seq ?_
        refine GC.region ?_
        refine GL.val trivial rfl (OV.move (v := .int .i64 x172.1) rfl) ?_
        refine GL.val trivial rfl (OV.move (v := .int .i64 x172.2) rfl) ?_
        refine GL.val trivial rfl (OV.ibin (v := .bool (decide ((x172.1 : Int) < x172.2))) rfl rfl rfl) ?_
        refine GL.nil ?_
        refine GC.cond (b := decide ((x172.1 : Int) < x172.2)) rfl (fun hc175 => ?_) (fun hc175 => ?_)
        · replace h := And.left h hc175
          refine GC.skip ?_
          refine GC.block ?_
          refine GC.seq ?_
          refine GC.region ?_
          refine GL.val trivial rfl (OV.move (v := .int .i64 x172.1) rfl) ?_
          refine GL.val trivial rfl (OV.move (v := .int .i64 x172.2) rfl) ?_
          refine GL.val trivial rfl (OV.ibin (v := .int .i64 (w .i64 (x172.1 + x172.2))) rfl rfl rfl) ?_
          refine GL.val trivial rfl (OV.convInt rfl rfl rfl) ?_
          refine GL.val trivial rfl (OV.shr rfl rfl (by decide)) ?_
          refine GL.val trivial rfl (OV.convInt rfl rfl rfl) ?_
          refine GL.val trivial rfl (OV.assign (v := .int .i64 (w .i64 (sShr .u64 (w .u64 (w .i64 (x172.1 + x172.2))) 1))) rfl) ?_
          refine GL.nil ?_
          refine GC.seq ?_
          obtain ⟨Hs176, hle177, h⟩ := h
          refine GC.any (Hs := Hs176) (by kernel_rfl) hle177 ?_
          refine GA.take 0 rfl (by kernel_rfl) (by kernel_rfl) (by kernel_rfl) (fun _ _ _ h => False.elim h) trivial rfl (OV.move (v := p_cmp) rfl) ?_
          refine GA.take 1 rfl (by kernel_rfl) (by kernel_rfl) (by kernel_rfl) (fun _ _ _ h => False.elim h) trivial rfl (OV.move (v := slv p_data) rfl) ?_
          refine GA.take 2 rfl (by kernel_rfl) (by kernel_rfl) (by kernel_rfl) (fun _ _ _ h => False.elim h) trivial rfl (OV.move (v := .int .i64 (w .i64 ((w .i64 ((w .i64 (sShr .u64 (w .u64 (w .i64 (p_a + p_b))) 1)) + p_m)) - 1))) rfl) ?_
          refine GA.take 3 rfl (by kernel_rfl) (by kernel_rfl) (by kernel_rfl) (fun _ _ _ h => False.elim h) trivial rfl (OV.move (v := .int .i64 (w .i64 (sShr .u64 (w .u64 (w .i64 (x172.1 + x172.2))) 1))) rfl) ?_
          refine GA.take 4 rfl (by kernel_rfl) (by kernel_rfl) (by kernel_rfl) (fun _ _ _ h => False.elim h) trivial rfl (OV.ibin (v := .int .i64 (w .i64 ((w .i64 ((w .i64 ((w .i64 (sShr .u64 (w .u64 (w .i64 (p_a + p_b))) 1)) + p_m)) - 1)) - (w .i64 (sShr .u64 (w .u64 (w .i64 (x172.1 + x172.2))) 1))))) rfl rfl rfl) ?_
          obtain ⟨p178, ha179, hb180, hc181, hd182, h⟩ := h
          refine GA.take 5 rfl (by kernel_rfl) (by kernel_rfl) (by kernel_rfl) (fun _ _ _ h => False.elim h) trivial rfl (OV.indexAddr (s := p_data) rfl rfl rfl rfl ha179 hb180 hc181 hd182) ?_
          obtain ⟨x183, hr184, h⟩ := h
          refine GA.take 6 rfl (by kernel_rfl) (by kernel_rfl) (by kernel_rfl) (fun _ _ _ h => False.elim h) trivial rfl (OV.load (p := (p178.1, p178.2 + (w .i64 ((w .i64 ((w .i64 ((w .i64 (sShr .u64 (w .u64 (w .i64 (p_a + p_b))) 1)) + p_m)) - 1)) - (w .i64 (sShr .u64 (w .u64 (w .i64 (x172.1 + x172.2))) 1))) : Int).toNat * 1)) rfl rfl hr184) ?_
          refine GA.take 7 rfl (by kernel_rfl) (by kernel_rfl) (by kernel_rfl) (fun _ _ _ h => False.elim h) trivial rfl (OV.move (v := slv p_data) rfl) ?_
          refine GA.take 8 rfl (by kernel_rfl) (by kernel_rfl) (by kernel_rfl) (fun _ _ _ h => False.elim h) trivial rfl (OV.move (v := .int .i64 (w .i64 (sShr .u64 (w .u64 (w .i64 (x172.1 + x172.2))) 1))) rfl) ?_
          obtain ⟨p185, ha186, hb187, hc188, hd189, h⟩ := h
          refine GA.take 9 rfl (by kernel_rfl) (by kernel_rfl) (by kernel_rfl) (fun _ _ _ h => False.elim h) trivial rfl (OV.indexAddr (s := p_data) rfl rfl rfl rfl ha186 hb187 hc188 hd189) ?_
          obtain ⟨x190, hr191, h⟩ := h
          refine GA.take 10 rfl (by kernel_rfl) (by kernel_rfl) (by kernel_rfl) (fun _ _ _ h => False.elim h) trivial rfl (OV.load (p := (p185.1, p185.2 + (w .i64 (sShr .u64 (w .u64 (w .i64 (x172.1 + x172.2))) 1) : Int).toNat * 1)) rfl rfl hr191) ?_
          refine GA.eff 11 rfl (by kernel_rfl) ?_
          refine GL.callU (xv := p_cmp) (vs := [slv x183, slv x190]) h trivial rfl rfl rfl ?_
          rintro _ H194 ⟨r193, rfl, h⟩
          obtain ⟨hle192, h⟩ := h
          refine GA.back hle192 ?_
          refine GA.take 12 rfl (by kernel_rfl) (by kernel_rfl) (by kernel_rfl) (fun _ _ _ h => False.elim h) trivial rfl (OV.ibin (v := .bool (decide ((r193 : Int) < 0))) rfl rfl rfl) ?_
          refine GA.take 13 rfl (by kernel_rfl) (by kernel_rfl) (by kernel_rfl) (fun _ _ _ h => False.elim h) trivial rfl (OV.not rfl) ?_
          refine GA.done (by kernel_rfl) ?_
          refine GL.nil ?_
          refine GC.cond (b := !(decide ((r193 : Int) < 0))) rfl (fun hc195 => ?_) (fun hc195 => ?_)
          · replace h := And.left h hc195
            refine GC.region ?_
            refine GL.val trivial rfl (OV.move (v := .int .i64 (w .i64 (sShr .u64 (w .u64 (w .i64 (x172.1 + x172.2))) 1))) rfl) ?_
            refine GL.val trivial rfl (OV.ibin (v := .int .i64 (w .i64 ((w .i64 (sShr .u64 (w .u64 (w .i64 (x172.1 + x172.2))) 1)) + 1))) rfl rfl rfl) ?_
            refine GL.val trivial rfl (OV.assign (v := .int .i64 (w .i64 ((w .i64 (sShr .u64 (w .u64 (w .i64 (x172.1 + x172.2))) 1)) + 1))) rfl) ?_
            exact GL.jump (fun _ _ h => h) ((w .i64 ((w .i64 (sShr .u64 (w .u64 (w .i64 (x172.1 + x172.2))) 1)) + 1)), x172.2) h ⟨rfl, rfl, rfl, rfl, rfl, rfl, rfl, rfl, rfl, rfl, trivial⟩
          · replace h := And.right h hc195
            refine GC.region ?_
            refine GL.val trivial rfl (OV.move (v := .int .i64 (w .i64 (sShr .u64 (w .u64 (w .i64 (x172.1 + x172.2))) 1))) rfl) ?_
            refine GL.val trivial rfl (OV.assign (v := .int .i64 (w .i64 (sShr .u64 (w .u64 (w .i64 (x172.1 + x172.2))) 1))) rfl) ?_
            exact GL.jump (fun _ _ h => h) (x172.1, (w .i64 (sShr .u64 (w .u64 (w .i64 (x172.1 + x172.2))) 1))) h ⟨rfl, rfl, rfl, rfl, rfl, rfl, rfl, rfl, rfl, rfl, trivial⟩
        · replace h := And.right h hc175
          refine GC.exit_to (fun _ _ h => h) ?_
          refine GC.seq ?_
          refine GC.region ?_
          refine GL.val trivial rfl (OV.move (v := .int .i64 (w .i64 ((w .i64 (sShr .u64 (w .u64 (w .i64 (p_a + p_b))) 1)) + p_m))) rfl) ?_
          refine GL.val trivial rfl (OV.move (v := .int .i64 x172.1) rfl) ?_
          refine GL.val trivial rfl (OV.ibin (v := .int .i64 (w .i64 ((w .i64 ((w .i64 (sShr .u64 (w .u64 (w .i64 (p_a + p_b))) 1)) + p_m)) - x172.1))) rfl rfl rfl) ?_
          refine GL.val trivial rfl (OV.assign (v := .int .i64 (w .i64 ((w .i64 ((w .i64 (sShr .u64 (w .u64 (w .i64 (p_a + p_b))) 1)) + p_m)) - x172.1))) rfl) ?_
          refine GL.nil ?_
          obtain ⟨J196, h, hR199⟩ := h
          refine GC.join (α := Unit) J196 (fun _ => [(0, slv p_data), (1, .int .i64 p_a), (3, .int .i64 p_b), (4, p_cmp), (18, .int .i64 (w .i64 (sShr .u64 (w .u64 (w .i64 (p_a + p_b))) 1))), (20, .int .i64 x172.1), (24, .int .i64 (w .i64 ((w .i64 ((w .i64 (sShr .u64 (w .u64 (w .i64 (p_a + p_b))) 1)) + p_m)) - x172.1)))]) ?_ ?_
          · skip
            refine GC.seq ?_
            refine GC.region ?_
            refine GL.val trivial rfl (OV.move (v := .int .i64 x172.1) rfl) ?_
            refine GL.val trivial rfl (OV.move (v := .int .i64 p_m) rfl) ?_
            refine GL.val trivial rfl (OV.ibin (v := .bool (decide ((x172.1 : Int) < p_m))) rfl rfl rfl) ?_
            refine GL.val trivial rfl (OV.move (v := .bool (decide ((x172.1 : Int) < p_m))) rfl) ?_
            refine GL.cut0 4 [(185, .bool ((decide ((x172.1 : Int) < p_m)) && (decide ((p_m : Int) < (w .i64 ((w .i64 ((w .i64 (sShr .u64 (w .u64 (w .i64 (p_a + p_b))) 1)) + p_m)) - x172.1)))))), (0, slv p_data), (1, .int .i64 p_a), (2, .int .i64 p_m), (3, .int .i64 p_b), (4, p_cmp), (18, .int .i64 (w .i64 (sShr .u64 (w .u64 (w .i64 (p_a + p_b))) 1))), (20, .int .i64 x172.1), (24, .int .i64 (w .i64 ((w .i64 ((w .i64 (sShr .u64 (w .u64 (w .i64 (p_a + p_b))) 1)) + p_m)) - x172.1)))] ?_ ?_
            · rcases Bool.eq_false_or_eq_true (decide ((x172.1 : Int) < p_m)) with hc200 | hc200
              · skip
                refine GL.val ⟨_, _, rfl, rfl, hc200⟩ rfl (OV.move (v := .int .i64 p_m) rfl) ?_
                refine GL.val ⟨_, _, rfl, rfl, hc200⟩ rfl (OV.move (v := .int .i64 (w .i64 ((w .i64 ((w .i64 (sShr .u64 (w .u64 (w .i64 (p_a + p_b))) 1)) + p_m)) - x172.1))) rfl) ?_
                refine GL.val ⟨_, _, rfl, rfl, hc200⟩ rfl (OV.ibin (v := .bool (decide ((p_m : Int) < (w .i64 ((w .i64 ((w .i64 (sShr .u64 (w .u64 (w .i64 (p_a + p_b))) 1)) + p_m)) - x172.1))))) rfl rfl rfl) ?_
                refine GL.val trivial rfl (OV.pickT (b := decide ((x172.1 : Int) < p_m)) (v := .bool (decide ((p_m : Int) < (w .i64 ((w .i64 ((w .i64 (sShr .u64 (w .u64 (w .i64 (p_a + p_b))) 1)) + p_m)) - x172.1))))) rfl hc200 rfl) ?_
                exact GL.jump0 (fun _ _ h => h) () rfl ⟨(by rw [hc200]; rfl), rfl, rfl, rfl, rfl, rfl, rfl, rfl, rfl, trivial⟩
              · skip
                refine GL.skip ⟨_, rfl, .inl ⟨_, rfl, hc200⟩⟩ rfl ?_
                refine GL.skip ⟨_, rfl, .inl ⟨_, rfl, hc200⟩⟩ rfl ?_
                refine GL.skip ⟨_, rfl, .inl ⟨_, rfl, hc200⟩⟩ rfl ?_
                refine GL.val trivial rfl (OV.pickF (b := decide ((x172.1 : Int) < p_m)) (v := .bool false) rfl hc200 rfl) ?_
                exact GL.jump0 (fun _ _ h => h) () rfl ⟨(by rw [hc200]; rfl), rfl, rfl, rfl, rfl, rfl, rfl, rfl, rfl, trivial⟩
            refine GL.nil ?_
            refine GC.cond (b := (decide ((x172.1 : Int) < p_m)) && (decide ((p_m : Int) < (w .i64 ((w .i64 ((w .i64 (sShr .u64 (w .u64 (w .i64 (p_a + p_b))) 1)) + p_m)) - x172.1))))) rfl (fun hc201 => ?_) (fun hc201 => ?_)
            · replace h := And.left h hc201
              refine GC.region ?_
              refine GL.val trivial rfl (OV.move (v := slv p_data) rfl) ?_
              refine GL.val trivial rfl (OV.move (v := .int .i64 x172.1) rfl) ?_
              refine GL.val trivial rfl (OV.move (v := .int .i64 p_m) rfl) ?_
              refine GL.val trivial rfl (OV.move (v := .int .i64 (w .i64 ((w .i64 ((w .i64 (sShr .u64 (w .u64 (w .i64 (p_a + p_b))) 1)) + p_m)) - x172.1))) rfl) ?_
              refine GL.val trivial rfl (OV.move (v := p_cmp) rfl) ?_
              refine GL.call h trivial rfl ok_slices_rotateCmpFunc_api_Value (vs := [slv p_data, .int .i64 x172.1, .int .i64 p_m, .int .i64 (w .i64 ((w .i64 ((w .i64 (sShr .u64 (w .u64 (w .i64 (p_a + p_b))) 1)) + p_m)) - x172.1)), p_cmp]) rfl ?_
              rintro _ H202 ⟨rfl, h⟩
              exact GL.jump (fun _ _ h => h) () h ⟨rfl, rfl, rfl, rfl, rfl, rfl, rfl, trivial⟩
            · replace h := And.right h hc201
              exact GC.jump (fun _ _ h => h) () h ⟨rfl, rfl, rfl, rfl, rfl, rfl, rfl, trivial⟩
          · intro x197 H198 h
            replace h := hR199 x197 H198 h
            obtain ⟨J203, h, hR206⟩ := h
            refine GC.join (α := Unit) J203 (fun _ => [(0, slv p_data), (3, .int .i64 p_b), (4, p_cmp), (18, .int .i64 (w .i64 (sShr .u64 (w .u64 (w .i64 (p_a + p_b))) 1))), (24, .int .i64 (w .i64 ((w .i64 ((w .i64 (sShr .u64 (w .u64 (w .i64 (p_a + p_b))) 1)) + p_m)) - x172.1)))]) ?_ ?_
            · skip
              refine GC.seq ?_
              refine GC.region ?_
              refine GL.val trivial rfl (OV.move (v := .int .i64 p_a) rfl) ?_
              refine GL.val trivial rfl (OV.move (v := .int .i64 x172.1) rfl) ?_
              refine GL.val trivial rfl (OV.ibin (v := .bool (decide ((p_a : Int) < x172.1))) rfl rfl rfl) ?_
              refine GL.val trivial rfl (OV.move (v := .bool (decide ((p_a : Int) < x172.1))) rfl) ?_
              refine GL.cut0 4 [(199, .bool ((decide ((p_a : Int) < x172.1)) && (decide ((x172.1 : Int) < (w .i64 (sShr .u64 (w .u64 (w .i64 (p_a + p_b))) 1)))))), (0, slv p_data), (1, .int .i64 p_a), (3, .int .i64 p_b), (4, p_cmp), (18, .int .i64 (w .i64 (sShr .u64 (w .u64 (w .i64 (p_a + p_b))) 1))), (20, .int .i64 x172.1), (24, .int .i64 (w .i64 ((w .i64 ((w .i64 (sShr .u64 (w .u64 (w .i64 (p_a + p_b))) 1)) + p_m)) - x172.1)))] ?_ ?_
              · rcases Bool.eq_false_or_eq_true (decide ((p_a : Int) < x172.1)) with hc207 | hc207
                · skip
                  refine GL.val ⟨_, _, rfl, rfl, hc207⟩ rfl (OV.move (v := .int .i64 x172.1) rfl) ?_
                  refine GL.val ⟨_, _, rfl, rfl, hc207⟩ rfl (OV.move (v := .int .i64 (w .i64 (sShr .u64 (w .u64 (w .i64 (p_a + p_b))) 1))) rfl) ?_
                  refine GL.val ⟨_, _, rfl, rfl, hc207⟩ rfl (OV.ibin (v := .bool (decide ((x172.1 : Int) < (w .i64 (sShr .u64 (w .u64 (w .i64 (p_a + p_b))) 1))))) rfl rfl rfl) ?_
                  refine GL.val trivial rfl (OV.pickT (b := decide ((p_a : Int) < x172.1)) (v := .bool (decide ((x172.1 : Int) < (w .i64 (sShr .u64 (w .u64 (w .i64 (p_a + p_b))) 1))))) rfl hc207 rfl) ?_
                  exact GL.jump0 (fun _ _ h => h) () rfl ⟨(by rw [hc207]; rfl), rfl, rfl, rfl, rfl, rfl, rfl, rfl, trivial⟩
                · skip
                  refine GL.skip ⟨_, rfl, .inl ⟨_, rfl, hc207⟩⟩ rfl ?_
                  refine GL.skip ⟨_, rfl, .inl ⟨_, rfl, hc207⟩⟩ rfl ?_
                  refine GL.skip ⟨_, rfl, .inl ⟨_, rfl, hc207⟩⟩ rfl ?_
                  refine GL.val trivial rfl (OV.pickF (b := decide ((p_a : Int) < x172.1)) (v := .bool false) rfl hc207 rfl) ?_
                  exact GL.jump0 (fun _ _ h => h) () rfl ⟨(by rw [hc207]; rfl), rfl, rfl, rfl, rfl, rfl, rfl, rfl, trivial⟩
              refine GL.nil ?_
              refine GC.cond (b := (decide ((p_a : Int) < x172.1)) && (decide ((x172.1 : Int) < (w .i64 (sShr .u64 (w .u64 (w .i64 (p_a + p_b))) 1))))) rfl (fun hc208 => ?_) (fun hc208 => ?_)
              · replace h := And.left h hc208
                refine GC.region ?_
                refine GL.val trivial rfl (OV.move (v := slv p_data) rfl) ?_
                refine GL.val trivial rfl (OV.move (v := .int .i64 p_a) rfl) ?_
                refine GL.val trivial rfl (OV.move (v := .int .i64 x172.1) rfl) ?_
                refine GL.val trivial rfl (OV.move (v := .int .i64 (w .i64 (sShr .u64 (w .u64 (w .i64 (p_a + p_b))) 1))) rfl) ?_
                refine GL.val trivial rfl (OV.move (v := p_cmp) rfl) ?_
                refine GL.call h trivial rfl ok_slices_symMergeCmpFunc_api_Value (vs := [slv p_data, .int .i64 p_a, .int .i64 x172.1, .int .i64 (w .i64 (sShr .u64 (w .u64 (w .i64 (p_a + p_b))) 1)), p_cmp]) rfl ?_
                rintro _ H209 ⟨rfl, h⟩
                exact GL.jump (fun _ _ h => h) () h ⟨rfl, rfl, rfl, rfl, rfl, trivial⟩
              · replace h := And.right h hc208
                exact GC.jump (fun _ _ h => h) () h ⟨rfl, rfl, rfl, rfl, rfl, trivial⟩
            · intro x204 H205 h
              replace h := hR206 x204 H205 h
              refine GC.seq ?_
              refine GC.region ?_
              refine GL.val trivial rfl (OV.move (v := .int .i64 (w .i64 (sShr .u64 (w .u64 (w .i64 (p_a + p_b))) 1))) rfl) ?_
              refine GL.val trivial rfl (OV.move (v := .int .i64 (w .i64 ((w .i64 ((w .i64 (sShr .u64 (w .u64 (w .i64 (p_a + p_b))) 1)) + p_m)) - x172.1))) rfl) ?_
              refine GL.val trivial rfl (OV.ibin (v := .bool (decide (((w .i64 (sShr .u64 (w .u64 (w .i64 (p_a + p_b))) 1)) : Int) < (w .i64 ((w .i64 ((w .i64 (sShr .u64 (w .u64 (w .i64 (p_a + p_b))) 1)) + p_m)) - x172.1))))) rfl rfl rfl) ?_
              refine GL.val trivial rfl (OV.move (v := .bool (decide (((w .i64 (sShr .u64 (w .u64 (w .i64 (p_a + p_b))) 1)) : Int) < (w .i64 ((w .i64 ((w .i64 (sShr .u64 (w .u64 (w .i64 (p_a + p_b))) 1)) + p_m)) - x172.1))))) rfl) ?_
              refine GL.cut0 4 [(213, .bool ((decide (((w .i64 (sShr .u64 (w .u64 (w .i64 (p_a + p_b))) 1)) : Int) < (w .i64 ((w .i64 ((w .i64 (sShr .u64 (w .u64 (w .i64 (p_a + p_b))) 1)) + p_m)) - x172.1)))) && (decide (((w .i64 ((w .i64 ((w .i64 (sShr .u64 (w .u64 (w .i64 (p_a + p_b))) 1)) + p_m)) - x172.1)) : Int) < p_b)))), (0, slv p_data), (3, .int .i64 p_b), (4, p_cmp), (18, .int .i64 (w .i64 (sShr .u64 (w .u64 (w .i64 (p_a + p_b))) 1))), (24, .int .i64 (w .i64 ((w .i64 ((w .i64 (sShr .u64 (w .u64 (w .i64 (p_a + p_b))) 1)) + p_m)) - x172.1)))] ?_ ?_
              · rcases Bool.eq_false_or_eq_true (decide (((w .i64 (sShr .u64 (w .u64 (w .i64 (p_a + p_b))) 1)) : Int) < (w .i64 ((w .i64 ((w .i64 (sShr .u64 (w .u64 (w .i64 (p_a + p_b))) 1)) + p_m)) - x172.1)))) with hc210 | hc210
                · skip
                  refine GL.val ⟨_, _, rfl, rfl, hc210⟩ rfl (OV.move (v := .int .i64 (w .i64 ((w .i64 ((w .i64 (sShr .u64 (w .u64 (w .i64 (p_a + p_b))) 1)) + p_m)) - x172.1))) rfl) ?_
                  refine GL.val ⟨_, _, rfl, rfl, hc210⟩ rfl (OV.move (v := .int .i64 p_b) rfl) ?_
                  refine GL.val ⟨_, _, rfl, rfl, hc210⟩ rfl (OV.ibin (v := .bool (decide (((w .i64 ((w .i64 ((w .i64 (sShr .u64 (w .u64 (w .i64 (p_a + p_b))) 1)) + p_m)) - x172.1)) : Int) < p_b))) rfl rfl rfl) ?_
                  refine GL.val trivial rfl (OV.pickT (b := decide (((w .i64 (sShr .u64 (w .u64 (w .i64 (p_a + p_b))) 1)) : Int) < (w .i64 ((w .i64 ((w .i64 (sShr .u64 (w .u64 (w .i64 (p_a + p_b))) 1)) + p_m)) - x172.1)))) (v := .bool (decide (((w .i64 ((w .i64 ((w .i64 (sShr .u64 (w .u64 (w .i64 (p_a + p_b))) 1)) + p_m)) - x172.1)) : Int) < p_b))) rfl hc210 rfl) ?_
                  exact GL.jump0 (fun _ _ h => h) () rfl ⟨(by rw [hc210]; rfl), rfl, rfl, rfl, rfl, rfl, trivial⟩
                · skip
                  refine GL.skip ⟨_, rfl, .inl ⟨_, rfl, hc210⟩⟩ rfl ?_
                  refine GL.skip ⟨_, rfl, .inl ⟨_, rfl, hc210⟩⟩ rfl ?_
                  refine GL.skip ⟨_, rfl, .inl ⟨_, rfl, hc210⟩⟩ rfl ?_
                  refine GL.val trivial rfl (OV.pickF (b := decide (((w .i64 (sShr .u64 (w .u64 (w .i64 (p_a + p_b))) 1)) : Int) < (w .i64 ((w .i64 ((w .i64 (sShr .u64 (w .u64 (w .i64 (p_a + p_b))) 1)) + p_m)) - x172.1)))) (v := .bool false) rfl hc210 rfl) ?_
                  exact GL.jump0 (fun _ _ h => h) () rfl ⟨(by rw [hc210]; rfl), rfl, rfl, rfl, rfl, rfl, trivial⟩
              refine GL.nil ?_
              refine GC.cond (b := (decide (((w .i64 (sShr .u64 (w .u64 (w .i64 (p_a + p_b))) 1)) : Int) < (w .i64 ((w .i64 ((w .i64 (sShr .u64 (w .u64 (w .i64 (p_a + p_b))) 1)) + p_m)) - x172.1)))) && (decide (((w .i64 ((w .i64 ((w .i64 (sShr .u64 (w .u64 (w .i64 (p_a + p_b))) 1)) + p_m)) - x172.1)) : Int) < p_b))) rfl (fun hc211 => ?_) (fun hc211 => ?_)
              · replace h := And.left h hc211
                refine GC.region ?_
                refine GL.val trivial rfl (OV.move (v := slv p_data) rfl) ?_
                refine GL.val trivial rfl (OV.move (v := .int .i64 (w .i64 (sShr .u64 (w .u64 (w .i64 (p_a + p_b))) 1))) rfl) ?_
                refine GL.val trivial rfl (OV.move (v := .int .i64 (w .i64 ((w .i64 ((w .i64 (sShr .u64 (w .u64 (w .i64 (p_a + p_b))) 1)) + p_m)) - x172.1))) rfl) ?_
                refine GL.val trivial rfl (OV.move (v := .int .i64 p_b) rfl) ?_
                refine GL.val trivial rfl (OV.move (v := p_cmp) rfl) ?_
                refine GL.call h trivial rfl ok_slices_symMergeCmpFunc_api_Value (vs := [slv p_data, .int .i64 (w .i64 (sShr .u64 (w .u64 (w .i64 (p_a + p_b))) 1)), .int .i64 (w .i64 ((w .i64 ((w .i64 (sShr .u64 (w .u64 (w .i64 (p_a + p_b))) 1)) + p_m)) - x172.1)), .int .i64 p_b, p_cmp]) rfl ?_
                rintro _ H212 ⟨rfl, h⟩
                exact GL.ends (fun _ _ hf hs => post_tmp0 rfl hf hs ⟨rfl, h⟩)
              · replace h := And.right h hc211
                exact GC.ends (fun _ _ hf hs => post_tmp0 rfl hf hs ⟨rfl, h⟩)

def sh_internal_stringslite_TrimPrefix (C : Ctx) (p_s : Str) (p_prefix : Str) (K : Str → Heap → Prop) (H : Heap) : Prop :=
  c_internal_stringslite_HasPrefix C p_s p_prefix (fun r1 H2 =>
 ift r1
 (slS p_s (List.length p_prefix : Int) (List.length p_s : Int) fun t4 =>
 K t4 H2)
 (K p_s H2)) H

theorem ad_internal_stringslite_TrimPrefix (C : Ctx) (p_s : Str) (p_prefix : Str) (K : Str → Heap → Prop) (H : Heap) (h : sh_internal_stringslite_TrimPrefix C p_s p_prefix K H) : c_internal_stringslite_TrimPrefix C p_s p_prefix K H := by
  refine Spec.enter Tryd.func69 rfl Tryd.ntmps69 rfl ?_
  refine GC.sub [(0, sv p_s), (1, sv p_prefix)] ⟨rfl, rfl, trivial⟩ ?_
  refine GC.seq ?_
  refine GC.region ?_
  refine GL.val trivial rfl (OV.assign (v := sv []) rfl) ?_
  refine GL.nil ?_
  refine GC.seq ?_
  refine GC.seq ?_
  refine GC.region ?_
  refine GL.val trivial rfl (OV.move (v := sv p_s) rfl) ?_
  refine GL.val trivial rfl (OV.move (v := sv p_prefix) rfl) ?_
  refine GL.call h trivial rfl ok_internal_stringslite_HasPrefix (vs := [sv p_s, sv p_prefix]) rfl ?_
  rintro _ H2 ⟨r1, rfl, h⟩
  refine GL.nil ?_
  refine GC.cond (b := r1) rfl (fun hc3 => ?_) (fun hc3 => ?_)
  · replace h := And.left h hc3
    refine GC.seq ?_
    refine GC.region ?_
    refine GL.val trivial rfl (OV.move (v := sv p_s) rfl) ?_
    refine GL.val trivial rfl (OV.move (v := sv p_prefix) rfl) ?_
    refine GL.val trivial rfl (OV.lenStr (s := p_prefix) rfl rfl) ?_
    obtain ⟨h5, h6, h7, t4, h8, h⟩ := h
    refine GL.val trivial rfl (OV.sliceStr (s := p_s) h5 h6 h7 h8 rfl rfl rfl rfl rfl rfl) ?_
    refine GL.val trivial rfl (OV.assign (v := sv t4) rfl) ?_
    refine GL.nil ?_
    exact GC.ret (fun _ _ hf hs => post_tmp1 rfl rfl hf hs ⟨t4, rfl, h⟩)
  · replace h := And.right h hc3
    refine GC.skip ?_
    refine GC.seq ?_
    refine GC.region ?_
    refine GL.val trivial rfl (OV.move (v := sv p_s) rfl) ?_
    refine GL.val trivial rfl (OV.assign (v := sv p_s) rfl) ?_
    refine GL.nil ?_
    exact GC.ret (fun _ _ hf hs => post_tmp1 rfl rfl hf hs ⟨p_s, rfl, h⟩)

def sh_strings_makeASCIISet (C : Ctx) (p_chars : Str) (K : List Value → Bool → Heap → Prop) (H : Heap) : Prop :=
  nw ((List.replicate 256 (.bool false : Value))) (fun b1 H2 =>
 lp (α := Int) 0 H2 (fun x3 J4 H5 =>
 ift (decide ((x3 : Int) < (List.length p_chars : Int)))
 (ixs p_chars x3 fun c7 =>
 ift (decide (((c7.toNat : Int) : Int) ≥ 128))
 (ldC H5 256 (b1, 0) fun x11 =>
 stC 256 (b1, 0) x11 (fun H14 =>
 ldC H14 256 (b1, 0) fun x17 =>
 K x17 false H14) H5)
 (ixr (b1, 0) 256 (c7.toNat : Int) <|
 st ((b1, 0).1, (b1, 0).2 + ((c7.toNat : Int) : Int).toNat * 1) (.bool true) (fun H22 =>
 J4 (w .i64 (x3 + 1)) H22) H5))
 (ldC H5 256 (b1, 0) fun x23 =>
 stC 256 (b1, 0) x23 (fun H26 =>
 ldC H26 256 (b1, 0) fun x29 =>
 K x29 true H26) H5))) H

theorem ad_strings_makeASCIISet (C : Ctx) (p_chars : Str) (K : List Value → Bool → Heap → Prop) (H : Heap) (h : sh_strings_makeASCIISet C p_chars K H) : c_strings_makeASCIISet C p_chars K H := by
  refine Spec.enter Tryd.func72 rfl Tryd.ntmps72 rfl ?_
  refine GC.sub [(0, sv p_chars)] ⟨rfl, trivial⟩ ?_
  refine GC.seq ?_
  refine GC.region ?_
  refine GL.alloc (cs := (List.replicate 256 (.bool false : Value))) h trivial rfl rfl rfl ?_
  intro b1 H2 h
  refine GL.val trivial rfl (OV.assign (v := .bool false) rfl) ?_
  refine GL.nil ?_
  refine GC.seq ?_
  refine GC.seq ?_
  refine GC.region ?_
  refine GL.val trivial rfl (OV.assign (v := .int .i64 0) rfl) ?_
  refine GL.nil ?_
  refine GC.block ?_
  refine GC.loop (α := Int) h (fun x3 => [(4, .int .i64 x3), (0, sv p_chars), (2, pv (some (b1, 0)))]) ⟨rfl, rfl, rfl, trivial⟩ ?_
  intro x3 H5 J4 h
  refine GC.seq ?_
  refine GC.seq ?_
  refine GC.region ?_
  refine GL.val trivial rfl (OV.move (v := .int .i64 x3) rfl) ?_
  refine GL.val trivial rfl (OV.move (v := sv p_chars) rfl) ?_
  refine GL.val trivial rfl (OV.lenStr (s := p_chars) rfl rfl) ?_
  refine GL.val trivial rfl (OV.ibin (v := .bool (decide ((x3 : Int) < (List.length p_chars : Int)))) rfl rfl rfl) ?_
  refine GL.nil ?_
  refine GC.cond (b := decide ((x3 : Int) < (List.length p_chars : Int))) rfl (fun hc6 => ?_) (fun hc6 => ?_)
  · replace h := And.left h hc6
    refine GC.skip ?_
    refine GC.seq ?_
    refine GC.block ?_
    refine GC.seq ?_
    refine GC.region ?_
    refine GL.val trivial rfl (OV.move (v := sv p_chars) rfl) ?_
    refine GL.val trivial rfl (OV.move (v := .int .i64 x3) rfl) ?_
    obtain ⟨c7, ha8, hb9, h⟩ := h
    refine GL.val trivial rfl (OV.indexStr (s := p_chars) rfl rfl rfl ha8 hb9) ?_
    refine GL.val trivial rfl (OV.assign (v := .int .u8 (c7.toNat : Int)) rfl) ?_
    refine GL.nil ?_
    refine GC.seq ?_
    refine GC.seq ?_
    refine GC.region ?_
    refine GL.val trivial rfl (OV.move (v := .int .u8 (c7.toNat : Int)) rfl) ?_
    refine GL.val trivial rfl (OV.ibin (v := .bool (decide (((c7.toNat : Int) : Int) ≥ 128))) rfl rfl rfl) ?_
    refine GL.nil ?_
    refine GC.cond (b := decide (((c7.toNat : Int) : Int) ≥ 128)) rfl (fun hc10 => ?_) (fun hc10 => ?_)
    · replace h := And.left h hc10
      refine GC.seq ?_
      refine GC.region ?_
      obtain ⟨x11, hl13, hr12, h⟩ := h
      refine GL.val trivial rfl (OV.loadT (p := (b1, 0)) (cs := x11) rfl rfl (by rw [hl13]; rfl) hr12) ?_
      obtain ⟨hl15, h116, h⟩ := h
      refine GL.storeT (p := (b1, 0)) (vs := x11) h trivial rfl rfl h116 (by rw [hl15]; rfl) ?_
      intro H14 h
      refine GL.val trivial rfl (OV.assign (v := .bool false) rfl) ?_
      refine GL.nil ?_
      obtain ⟨x17, hl19, hr18, h⟩ := h
      exact GC.ret (fun _ _ hf hs => post_res2 rfl (RV.cellT (p := (b1, 0)) (cs := x17) rfl rfl (by rw [hl19]; rfl) hr18) (RV.tmp rfl) hf hs ⟨x17, false, rfl, h⟩)
    · replace h := And.right h hc10
      refine GC.skip ?_
      refine GC.region ?_
      refine GL.val trivial rfl (OV.move (v := .int .u8 (c7.toNat : Int)) rfl) ?_
      obtain ⟨ha20, hb21, h⟩ := h
      refine GL.val trivial rfl (OV.indexAddrA (p := (b1, 0)) rfl rfl rfl rfl ha20 hb21) ?_
      refine GL.store (p := ((b1, 0).1, (b1, 0).2 + ((c7.toNat : Int) : Int).toNat * 1)) (v := .bool true) h trivial rfl rfl rfl rfl ?_
      intro H22 h
      refine GL.nil_to (fun _ _ h => h) ?_
      refine GC.region ?_
      refine GL.val trivial rfl (OV.move (v := .int .i64 x3) rfl) ?_
      refine GL.val trivial rfl (OV.ibin (v := .int .i64 (w .i64 (x3 + 1))) rfl rfl rfl) ?_
      refine GL.val trivial rfl (OV.assign (v := .int .i64 (w .i64 (x3 + 1))) rfl) ?_
      exact GL.jump (fun _ _ h => h) (w .i64 (x3 + 1)) h ⟨rfl, rfl, rfl, trivial⟩
  · replace h := And.right h hc6
    refine GC.exit_to (fun _ _ h => h) ?_
    refine GC.seq ?_
    refine GC.region ?_
    obtain ⟨x23, hl25, hr24, h⟩ := h
    refine GL.val trivial rfl (OV.loadT (p := (b1, 0)) (cs := x23) rfl rfl (by rw [hl25]; rfl) hr24) ?_
    obtain ⟨hl27, h128, h⟩ := h
    refine GL.storeT (p := (b1, 0)) (vs := x23) h trivial rfl rfl h128 (by rw [hl27]; rfl) ?_
    intro H26 h
    refine GL.val trivial rfl (OV.assign (v := .bool true) rfl) ?_
    refine GL.nil ?_
    obtain ⟨x29, hl31, hr30, h⟩ := h
    exact GC.ret (fun _ _ hf hs => post_res2 rfl (RV.cellT (p := (b1, 0)) (cs := x29) rfl rfl (by rw [hl31]; rfl) hr30) (RV.tmp rfl) hf hs ⟨x29, true, rfl, h⟩)

def sh_strings_trimLeftASCII (C : Ctx) (p_s : Str) (p_as : Option (Nat × Nat)) (K : Str → Heap → Prop) (H : Heap) : Prop :=
  jn (α := Str) (fun x2 H3 =>
 K x2 H3)
 (fun J1 => lp (α := Str) p_s H (fun x5 J6 H7 =>
 ift (decide (((List.length x5 : Int) : Int) > 0))
 (ixs x5 0 fun c9 =>
 c_strings_asciiSet_contains C p_as (c9.toNat : Int) (fun r12 H13 =>
 ift (!r12)
 (J1 x5 H13)
 (slS x5 1 (List.length x5 : Int) fun t15 =>
 J6 t15 H13)) H7)
 (J1 x5 H7)))

theorem ad_strings_trimLeftASCII (C : Ctx) (p_s : Str) (p_as : Option (Nat × Nat)) (K : Str → Heap → Prop) (H : Heap) (h : sh_strings_trimLeftASCII C p_s p_as K H) : c_strings_trimLeftASCII C p_s p_as K H := by
  refine Spec.enter Tryd.func73 rfl Tryd.ntmps73 rfl ?_
  refine GC.sub [(0, sv p_s), (1, pv p_as)] ⟨rfl, rfl, trivial⟩ ?_
  refine GC.seq ?_
  refine GC.region ?_
  refine GL.val trivial rfl (OV.assign (v := sv []) rfl) ?_
  refine GL.nil ?_
  obtain ⟨J1, h, hR4⟩ := h
  refine GC.join (α := Str) J1 (fun x2 => [(0, sv x2)]) ?_ ?_
  · skip
    refine GC.block ?_
    refine GC.loop (α := Str) h (fun x5 => [(0, sv x5), (1, pv p_as)]) ⟨rfl, rfl, trivial⟩ ?_
    intro x5 H7 J6 h
    refine GC.seq ?_
    refine GC.seq ?_
    refine GC.region ?_
    refine GL.val trivial rfl (OV.move (v := sv x5) rfl) ?_
    refine GL.val trivial rfl (OV.lenStr (s := x5) rfl rfl) ?_
    refine GL.val trivial rfl (OV.ibin (v := .bool (decide (((List.length x5 : Int) : Int) > 0))) rfl rfl rfl) ?_
    refine GL.nil ?_
    refine GC.cond (b := decide (((List.length x5 : Int) : Int) > 0)) rfl (fun hc8 => ?_) (fun hc8 => ?_)
    · replace h := And.left h hc8
      refine GC.skip ?_
      refine GC.block ?_
      refine GC.seq ?_
      refine GC.seq ?_
      refine GC.region ?_
      refine GL.val trivial rfl (OV.move (v := pv p_as) rfl) ?_
      refine GL.val trivial rfl (OV.move (v := sv x5) rfl) ?_
      obtain ⟨c9, ha10, hb11, h⟩ := h
      refine GL.val trivial rfl (OV.indexStr (s := x5) rfl rfl rfl ha10 hb11) ?_
      refine GL.call h trivial rfl ok_strings_asciiSet_contains (vs := [pv p_as, .int .u8 (c9.toNat : Int)]) rfl ?_
      rintro _ H13 ⟨r12, rfl, h⟩
      refine GL.val trivial rfl (OV.not rfl) ?_
      refine GL.nil ?_
      refine GC.cond (b := !r12) rfl (fun hc14 => ?_) (fun hc14 => ?_)
      · replace h := And.left h hc14
        exact GC.exit_jump (fun _ _ h => h) x5 h ⟨rfl, trivial⟩
      · replace h := And.right h hc14
        refine GC.skip ?_
        refine GC.region ?_
        refine GL.val trivial rfl (OV.move (v := sv x5) rfl) ?_
        obtain ⟨h16, h17, h18, t15, h19, h⟩ := h
        refine GL.val trivial rfl (OV.sliceStr (s := x5) h16 h17 h18 h19 rfl rfl rfl rfl rfl rfl) ?_
        refine GL.val trivial rfl (OV.assign (v := sv t15) rfl) ?_
        exact GL.jump (fun _ _ h => h) t15 h ⟨rfl, rfl, trivial⟩
    · replace h := And.right h hc8
      exact GC.exit_jump (fun _ _ h => h) x5 h ⟨rfl, trivial⟩
  · intro x2 H3 h
    replace h := hR4 x2 H3 h
    refine GC.seq ?_
    refine GC.region ?_
    refine GL.val trivial rfl (OV.move (v := sv x2) rfl) ?_
    refine GL.val trivial rfl (OV.assign (v := sv x2) rfl) ?_
    refine GL.nil ?_
    exact GC.ret (fun _ _ hf hs => post_tmp1 rfl rfl hf hs ⟨x2, rfl, h⟩)

def sh_strings_trimRightASCII (C : Ctx) (p_s : Str) (p_as : Option (Nat × Nat)) (K : Str → Heap → Prop) (H : Heap) : Prop :=
  jn (α := Str) (fun x2 H3 =>
 K x2 H3)
 (fun J1 => lp (α := Str) p_s H (fun x5 J6 H7 =>
 ift (decide (((List.length x5 : Int) : Int) > 0))
 (ixs x5 (w .i64 ((List.length x5 : Int) - 1)) fun c9 =>
 c_strings_asciiSet_contains C p_as (c9.toNat : Int) (fun r12 H13 =>
 ift (!r12)
 (J1 x5 H13)
 (slS x5 0 (w .i64 ((List.length x5 : Int) - 1)) fun t15 =>
 J6 t15 H13)) H7)
 (J1 x5 H7)))

theorem ad_strings_trimRightASCII (C : Ctx) (p_s : Str) (p_as : Option (Nat × Nat)) (K : Str → Heap → Prop) (H : Heap) (h : sh_strings_trimRightASCII C p_s p_as K H) : c_strings_trimRightASCII C p_s p_as K H := by
  refine Spec.enter Tryd.func74 rfl Tryd.ntmps74 rfl ?_
  refine GC.sub [(0, sv p_s), (1, pv p_as)] ⟨rfl, rfl, trivial⟩ ?_
  refine GC.seq ?_
  refine GC.region ?_
  refine GL.val trivial rfl (OV.assign (v := sv []) rfl) ?_
  refine GL.nil ?_
  obtain ⟨J1, h, hR4⟩ := h
  refine GC.join (α := Str) J1 (fun x2 => [(0, sv x2)]) ?_ ?_
  · skip
    refine GC.block ?_
    refine GC.loop (α := Str) h (fun x5 => [(0, sv x5), (1, pv p_as)]) ⟨rfl, rfl, trivial⟩ ?_
    intro x5 H7 J6 h
    refine GC.seq ?_
    refine GC.seq ?_
    refine GC.region ?_
    refine GL.val trivial rfl (OV.move (v := sv x5) rfl) ?_
    refine GL.val trivial rfl (OV.lenStr (s := x5) rfl rfl) ?_
    refine GL.val trivial rfl (OV.ibin (v := .bool (decide (((List.length x5 : Int) : Int) > 0))) rfl rfl rfl) ?_
    refine GL.nil ?_
    refine GC.cond (b := decide (((List.length x5 : Int) : Int) > 0)) rfl (fun hc8 => ?_) (fun hc8 => ?_)
    · replace h := And.left h hc8
      refine GC.skip ?_
      refine GC.block ?_
      refine GC.seq ?_
      refine GC.seq ?_
      refine GC.region ?_
      refine GL.val trivial rfl (OV.move (v := pv p_as) rfl) ?_
      refine GL.val trivial rfl (OV.move (v := sv x5) rfl) ?_
      refine GL.val trivial rfl (OV.move (v := sv x5) rfl) ?_
      refine GL.val trivial rfl (OV.lenStr (s := x5) rfl rfl) ?_
      refine GL.val trivial rfl (OV.ibin (v := .int .i64 (w .i64 ((List.length x5 : Int) - 1))) rfl rfl rfl) ?_
      obtain ⟨c9, ha10, hb11, h⟩ := h
      refine GL.val trivial rfl (OV.indexStr (s := x5) rfl rfl rfl ha10 hb11) ?_
      refine GL.call h trivial rfl ok_strings_asciiSet_contains (vs := [pv p_as, .int .u8 (c9.toNat : Int)]) rfl ?_
      rintro _ H13 ⟨r12, rfl, h⟩
      refine GL.val trivial rfl (OV.not rfl) ?_
      refine GL.nil ?_
      refine GC.cond (b := !r12) rfl (fun hc14 => ?_) (fun hc14 => ?_)
      · replace h := And.left h hc14
        exact GC.exit_jump (fun _ _ h => h) x5 h ⟨rfl, trivial⟩
      · replace h := And.right h hc14
        refine GC.skip ?_
        refine GC.region ?_
        refine GL.val trivial rfl (OV.move (v := sv x5) rfl) ?_
        refine GL.val trivial rfl (OV.move (v := sv x5) rfl) ?_
        refine GL.val trivial rfl (OV.lenStr (s := x5) rfl rfl) ?_
        refine GL.val trivial rfl (OV.ibin (v := .int .i64 (w .i64 ((List.length x5 : Int) - 1))) rfl rfl rfl) ?_
        obtain ⟨h16, h17, h18, t15, h19, h⟩ := h
        refine GL.val trivial rfl (OV.sliceStr (s := x5) h16 h17 h18 h19 rfl rfl rfl rfl rfl rfl) ?_
        refine GL.val trivial rfl (OV.assign (v := sv t15) rfl) ?_
        exact GL.jump (fun _ _ h => h) t15 h ⟨rfl, rfl, trivial⟩
    · replace h := And.right h hc8
      exact GC.exit_jump (fun _ _ h => h) x5 h ⟨rfl, trivial⟩
  · intro x2 H3 h
    replace h := hR4 x2 H3 h
    refine GC.seq ?_
    refine GC.region ?_
    refine GL.val trivial rfl (OV.move (v := sv x2) rfl) ?_
    refine GL.val trivial rfl (OV.assign (v := sv x2) rfl) ?_
    refine GL.nil ?_
    exact GC.ret (fun _ _ hf hs => post_tmp1 rfl rfl hf hs ⟨x2, rfl, h⟩)

def sh_internal_stringslite_Index (C : Ctx) (p_s : Str) (p_substr : Str) (K : Int → Heap → Prop) (H : Heap) : Prop :=
  ift ((((List.length p_substr : Int) : Int) == 0) || (p_substr == p_s))
 (K 0 H)
 (ift (((List.length p_substr : Int) : Int) == 1)
 (ixs p_substr 0 fun c4 =>
 c_internal_stringslite_IndexByte C p_s (c4.toNat : Int) (fun r7 H8 =>
 K r7 H8) H)
 (ift (decide (((List.length p_substr : Int) : Int) ≥ (List.length p_s : Int)))
 (K (-1) H)
 (ldI H .i64 (1, 0) fun x10 =>
 ift ((decide (((List.length p_substr : Int) : Int) ≤ x10)) && (decide (((List.length p_s : Int) : Int) ≤ 64)))
 (False)
 (ixs p_substr 0 fun c14 =>
 ixs p_substr 1 fun c17 =>
 lp (α := Int × Int) (0, 0) H (fun x20 J21 H22 =>
 ift (decide ((x20.1 : Int) < (w .i64 ((w .i64 ((List.length p_s : Int) - (List.length p_substr : Int))) + 1))))
 (jn (α := Int) (fun x25 H26 =>
 ixs p_s (w .i64 (x25 + 1)) fun c41 =>
 jn (α := Bool) (fun b44 H54 =>
 ift b44
 (K x25 H54)
 (ldI H54 .i64 (1, 0) fun x56 =>
 jn (α := Bool) (fun b58 H64 =>
 ift b58
 (False)
 (ldI H64 .i64 (1, 0) fun x72 =>
 ift (((decide (((List.length p_substr : Int) : Int) > x72)) && (decide (((w .i64 (x20.2 + 1)) : Int) ≥ (w .i64 (4 + (sShr .i64 (w .i64 (x25 + 1)) 4)))))) && (decide (((w .i64 (x25 + 1)) : Int) < (w .i64 ((w .i64 ((List.length p_s : Int) - (List.length p_substr : Int))) + 1)))))
 (slS p_s (w .i64 (x25 + 1)) (List.length p_s : Int) fun t77 =>
 c_internal_bytealg_IndexRabinKarp_string C t77 p_substr (fun r83 H84 =>
 ift (decide ((r83 : Int) < 0))
 (K (-1) H84)
 (K (w .i64 ((w .i64 (x25 + 1)) + r83)) H84)) H64)
 (J21 ((w .i64 (x25 + 1)), (w .i64 (x20.2 + 1))) H64)))
 (fun J59 => ift (decide (((List.length p_substr : Int) : Int) ≤ x56))
 (c_internal_bytealg_Cutover C (w .i64 (x25 + 1)) (fun r62 H63 =>
 J59 (decide (((w .i64 (x20.2 + 1)) : Int) > r62)) H63) H54)
 (J59 false H54))))
 (fun J45 => ift (((c41.toNat : Int) : Int) == (c17.toNat : Int))
 (slS p_s x25 (w .i64 (x25 + (List.length p_substr : Int))) fun t48 =>
 J45 (t48 == p_substr) H26)
 (J45 false H26)))
 (fun J24 => ixs p_s x20.1 fun c28 =>
 ift (((c28.toNat : Int) : Int) != (c14.toNat : Int))
 (slS p_s (w .i64 (x20.1 + 1)) (w .i64 ((w .i64 ((List.length p_s : Int) - (List.length p_substr : Int))) + 1)) fun t32 =>
 c_internal_stringslite_IndexByte C t32 (c14.toNat : Int) (fun r38 H39 =>
 ift (decide ((r38 : Int) < 0))
 (K (-1) H39)
 (J24 (w .i64 (x20.1 + (w .i64 (r38 + 1)))) H39)) H22)
 (J24 x20.1 H22)))
 (K (-1) H22))))))

theorem ad_internal_stringslite_Index (C : Ctx) (p_s : Str) (p_substr : Str) (K : Int → Heap → Prop) (H : Heap) (h : sh_internal_stringslite_Index C p_s p_substr K H) : c_internal_stringslite_Index C p_s p_substr K H := by
  refine Spec.enter Tryd.func77 rfl Tryd.ntmps77 rfl ?_
  refine GC.sub [(0, sv p_s), (1, sv p_substr)] ⟨rfl, rfl, trivial⟩ ?_
  refine GC.seq ?_
  refine GC.region ?_
  refine GL.val trivial rfl (OV.assign (v := .int .i64 0) rfl) ?_
  refine GL.nil ?_
  refine GC.seq ?_
  refine GC.region ?_
  refine GL.val trivial rfl (OV.move (v := sv p_substr) rfl) ?_
  refine GL.val trivial rfl (OV.lenStr (s := p_substr) rfl rfl) ?_
  refine GL.val trivial rfl (OV.assign (v := .int .i64 (List.length p_substr : Int)) rfl) ?_
  refine GL.nil ?_
  refine GC.seq ?_
  refine GC.block ?_
  refine GC.seq ?_
  refine GC.region ?_
  refine GL.val trivial rfl (OV.move (v := .int .i64 (List.length p_substr : Int)) rfl) ?_
  refine GL.val trivial rfl (OV.ibin (v := .bool (((List.length p_substr : Int) : Int) == 0)) rfl rfl rfl) ?_
  refine GL.val trivial rfl (OV.move (v := .bool (((List.length p_substr : Int) : Int) == 0)) rfl) ?_
  refine GL.cut0 4 [(23, .bool ((((List.length p_substr : Int) : Int) == 0) || (p_substr == p_s))), (0, sv p_s), (1, sv p_substr), (5, .int .i64 (List.length p_substr : Int))] ?_ ?_
  · rcases Bool.eq_false_or_eq_true (((List.length p_substr : Int) : Int) == 0) with hc1 | hc1
    · skip
      refine GL.skip ⟨_, rfl, .inl ⟨_, rfl, hc1⟩⟩ rfl ?_
      refine GL.skip ⟨_, rfl, .inl ⟨_, rfl, hc1⟩⟩ rfl ?_
      refine GL.skip ⟨_, rfl, .inl ⟨_, rfl, hc1⟩⟩ rfl ?_
      refine GL.val trivial rfl (OV.pickT (b := ((List.length p_substr : Int) : Int) == 0) (v := .bool true) rfl hc1 rfl) ?_
      exact GL.jump0 (fun _ _ h => h) () rfl ⟨(by rw [hc1]; rfl), rfl, rfl, rfl, trivial⟩
    · skip
      refine GL.val ⟨_, _, rfl, rfl, hc1⟩ rfl (OV.move (v := sv p_substr) rfl) ?_
      refine GL.val ⟨_, _, rfl, rfl, hc1⟩ rfl (OV.move (v := sv p_s) rfl) ?_
      refine GL.val ⟨_, _, rfl, rfl, hc1⟩ rfl (OV.sbin (a := p_substr) (b := p_s) (v := .bool (p_substr == p_s)) rfl rfl rfl) ?_
      refine GL.val trivial rfl (OV.pickF (b := ((List.length p_substr : Int) : Int) == 0) (v := .bool (p_substr == p_s)) rfl hc1 rfl) ?_
      exact GL.jump0 (fun _ _ h => h) () rfl ⟨(by rw [hc1]; rfl), rfl, rfl, rfl, trivial⟩
  refine GL.val trivial rfl (OV.assign (v := .bool ((((List.length p_substr : Int) : Int) == 0) || (p_substr == p_s))) rfl) ?_
  refine GL.nil ?_
  refine GC.cond (b := (((List.length p_substr : Int) : Int) == 0) || (p_substr == p_s)) rfl (fun hc2 => ?_) (fun hc2 => ?_)
  · replace h := And.left h hc2
    refine GC.seq ?_
    refine GC.region ?_
    refine GL.val trivial rfl (OV.assign (v := .int .i64 0) rfl) ?_
    refine GL.nil ?_
    exact GC.ret (fun _ _ hf hs => post_tmp1 rfl rfl hf hs ⟨0, rfl, h⟩)
  · replace h := And.right h hc2
    refine GC.seq ?_
    refine GC.region ?_
    refine GL.val trivial rfl (OV.move (v := .int .i64 (List.length p_substr : Int)) rfl) ?_
    refine GL.val trivial rfl (OV.ibin (v := .bool (((List.length p_substr : Int) : Int) == 1)) rfl rfl rfl) ?_
    refine GL.val trivial rfl (OV.assign (v := .bool (((List.length p_substr : Int) : Int) == 1)) rfl) ?_
    refine GL.nil ?_
    refine GC.cond (b := ((List.length p_substr : Int) : Int) == 1) rfl (fun hc3 => ?_) (fun hc3 => ?_)
    · replace h := And.left h hc3
      refine GC.seq ?_
      refine GC.region ?_
      refine GL.val trivial rfl (OV.move (v := sv p_s) rfl) ?_
      refine GL.val trivial rfl (OV.move (v := sv p_substr) rfl) ?_
      obtain ⟨c4, ha5, hb6, h⟩ := h
      refine GL.val trivial rfl (OV.indexStr (s := p_substr) rfl rfl rfl ha5 hb6) ?_
      refine GL.call h trivial rfl ok_internal_stringslite_IndexByte (vs := [sv p_s, .int .u8 (c4.toNat : Int)]) rfl ?_
      rintro _ H8 ⟨r7, rfl, h⟩
      refine GL.val trivial rfl (OV.assign (v := .int .i64 r7) rfl) ?_
      refine GL.nil ?_
      exact GC.ret (fun _ _ hf hs => post_tmp1 rfl rfl hf hs ⟨r7, rfl, h⟩)
    · replace h := And.right h hc3
      refine GC.seq ?_
      refine GC.region ?_
      refine GL.val trivial rfl (OV.move (v := .int .i64 (List.length p_substr : Int)) rfl) ?_
      refine GL.val trivial rfl (OV.move (v := sv p_s) rfl) ?_
      refine GL.val trivial rfl (OV.lenStr (s := p_s) rfl rfl) ?_
      refine GL.val trivial rfl (OV.ibin (v := .bool (decide (((List.length p_substr : Int) : Int) ≥ (List.length p_s : Int)))) rfl rfl rfl) ?_
      refine GL.val trivial rfl (OV.assign (v := .bool (decide (((List.length p_substr : Int) : Int) ≥ (List.length p_s : Int)))) rfl) ?_
      refine GL.nil ?_
      refine GC.cond (b := decide (((List.length p_substr : Int) : Int) ≥ (List.length p_s : Int))) rfl (fun hc9 => ?_) (fun hc9 => ?_)
      · replace h := And.left h hc9
        refine GC.seq ?_
        refine GC.region ?_
        refine GL.val trivial rfl (OV.assign (v := .int .i64 (-1)) rfl) ?_
        refine GL.nil ?_
        exact GC.ret (fun _ _ hf hs => post_tmp1 rfl rfl hf hs ⟨(-1), rfl, h⟩)
      · replace h := And.right h hc9
        refine GC.seq ?_
        refine GC.region ?_
        refine GL.val trivial rfl (OV.move (v := .int .i64 (List.length p_substr : Int)) rfl) ?_
        obtain ⟨x10, hr11, h⟩ := h
        refine GL.val trivial rfl (OV.load (p := (1, 0)) rfl rfl hr11) ?_
        refine GL.val trivial rfl (OV.ibin (v := .bool (decide (((List.length p_substr : Int) : Int) ≤ x10))) rfl rfl rfl) ?_
        refine GL.val trivial rfl (OV.move (v := .bool (decide (((List.length p_substr : Int) : Int) ≤ x10))) rfl) ?_
        refine GL.cut0 4 [(44, .bool ((decide (((List.length p_substr : Int) : Int) ≤ x10)) && (decide (((List.length p_s : Int) : Int) ≤ 64)))), (0, sv p_s), (1, sv p_substr), (5, .int .i64 (List.length p_substr : Int))] ?_ ?_
        · rcases Bool.eq_false_or_eq_true (decide (((List.length p_substr : Int) : Int) ≤ x10)) with hc12 | hc12
          · skip
            refine GL.val ⟨_, _, rfl, rfl, hc12⟩ rfl (OV.move (v := sv p_s) rfl) ?_
            refine GL.val ⟨_, _, rfl, rfl, hc12⟩ rfl (OV.lenStr (s := p_s) rfl rfl) ?_
            refine GL.val ⟨_, _, rfl, rfl, hc12⟩ rfl (OV.ibin (v := .bool (decide (((List.length p_s : Int) : Int) ≤ 64))) rfl rfl rfl) ?_
            refine GL.val trivial rfl (OV.pickT (b := decide (((List.length p_substr : Int) : Int) ≤ x10)) (v := .bool (decide (((List.length p_s : Int) : Int) ≤ 64))) rfl hc12 rfl) ?_
            exact GL.jump0 (fun _ _ h => h) () rfl ⟨(by rw [hc12]; rfl), rfl, rfl, rfl, trivial⟩
          · skip
            refine GL.skip ⟨_, rfl, .inl ⟨_, rfl, hc12⟩⟩ rfl ?_
            refine GL.skip ⟨_, rfl, .inl ⟨_, rfl, hc12⟩⟩ rfl ?_
            refine GL.skip ⟨_, rfl, .inl ⟨_, rfl, hc12⟩⟩ rfl ?_
            refine GL.val trivial rfl (OV.pickF (b := decide (((List.length p_substr : Int) : Int) ≤ x10)) (v := .bool false) rfl hc12 rfl) ?_
            exact GL.jump0 (fun _ _ h => h) () rfl ⟨(by rw [hc12]; rfl), rfl, rfl, rfl, trivial⟩
        refine GL.val trivial rfl (OV.assign (v := .bool ((decide (((List.length p_substr : Int) : Int) ≤ x10)) && (decide (((List.length p_s : Int) : Int) ≤ 64)))) rfl) ?_
        refine GL.nil ?_
        refine GC.cond (b := (decide (((List.length p_substr : Int) : Int) ≤ x10)) && (decide (((List.length p_s : Int) : Int) ≤ 64))) rfl (fun hc13 => ?_) (fun hc13 => ?_)
        · replace h := And.left h hc13
          refine GC.seq ?_
          exact GC.never h
        · replace h := And.right h hc13
          refine GC.skip_to (fun _ _ h => h) ?_
          refine GC.seq ?_
          refine GC.region ?_
          refine GL.val trivial rfl (OV.move (v := sv p_substr) rfl) ?_
          obtain ⟨c14, ha15, hb16, h⟩ := h
          refine GL.val trivial rfl (OV.indexStr (s := p_substr) rfl rfl rfl ha15 hb16) ?_
          refine GL.val trivial rfl (OV.assign (v := .int .u8 (c14.toNat : Int)) rfl) ?_
          refine GL.nil ?_
          refine GC.seq ?_
          refine GC.region ?_
          refine GL.val trivial rfl (OV.move (v := sv p_substr) rfl) ?_
          obtain ⟨c17, ha18, hb19, h⟩ := h
          refine GL.val trivial rfl (OV.indexStr (s := p_substr) rfl rfl rfl ha18 hb19) ?_
          refine GL.val trivial rfl (OV.assign (v := .int .u8 (c17.toNat : Int)) rfl) ?_
          refine GL.nil ?_
          refine GC.seq ?_
          refine GC.region ?_
          refine GL.val trivial rfl (OV.assign (v := .int .i64 0) rfl) ?_
          refine GL.nil ?_
          refine GC.seq ?_
          refine GC.region ?_
          refine GL.val trivial rfl (OV.move (v := sv p_s) rfl) ?_
          refine GL.val trivial rfl (OV.lenStr (s := p_s) rfl rfl) ?_
          refine GL.val trivial rfl (OV.move (v := .int .i64 (List.length p_substr : Int)) rfl) ?_
          refine GL.val trivial rfl (OV.ibin (v := .int .i64 (w .i64 ((List.length p_s : Int) - (List.length p_substr : Int)))) rfl rfl rfl) ?_
          refine GL.val trivial rfl (OV.ibin (v := .int .i64 (w .i64 ((w .i64 ((List.length p_s : Int) - (List.length p_substr : Int))) + 1))) rfl rfl rfl) ?_
          refine GL.val trivial rfl (OV.assign (v := .int .i64 (w .i64 ((w .i64 ((List.length p_s : Int) - (List.length p_substr : Int))) + 1))) rfl) ?_
          refine GL.nil ?_
          refine GC.seq ?_
          refine GC.region ?_
          refine GL.val trivial rfl (OV.assign (v := .int .i64 0) rfl) ?_
          refine GL.nil ?_
          refine GC.seq ?_
          refine GC.block ?_
          refine GC.loop (α := Int × Int) h (fun x20 => [(8, .int .i64 x20.1), (10, .int .i64 x20.2), (0, sv p_s), (1, sv p_substr), (5, .int .i64 (List.length p_substr : Int)), (6, .int .u8 (c14.toNat : Int)), (7, .int .u8 (c17.toNat : Int)), (9, .int .i64 (w .i64 ((w .i64 ((List.length p_s : Int) - (List.length p_substr : Int))) + 1)))]) ⟨rfl, rfl, rfl, rfl, rfl, rfl, rfl, rfl, trivial⟩ ?_
          intro x20 H22 J21 h
          refine GC.seq ?_
          refine GC.seq ?_
          refine GC.region ?_
          refine GL.val trivial rfl (OV.move (v := .int .i64 x20.1) rfl) ?_
          refine GL.val trivial rfl (OV.move (v := .int .i64 (w .i64 ((w .i64 ((List.length p_s : Int) - (List.length p_substr : Int))) + 1))) rfl) ?_
          refine GL.val trivial rfl (OV.ibin (v := .bool (decide ((x20.1 : Int) < (w .i64 ((w .i64 ((List.length p_s : Int) - (List.length p_substr : Int))) + 1))))) rfl rfl rfl) ?_
          refine GL.nil ?_
          refine GC.cond (b := decide ((x20.1 : Int) < (w .i64 ((w .i64 ((List.length p_s : Int) - (List.length p_substr : Int))) + 1)))) rfl (fun hc23 => ?_) (fun hc23 => ?_)
          · replace h := And.left h hc23
            refine GC.skip ?_
            refine GC.block ?_
            obtain ⟨J24, h, hR27⟩ := h
            refine GC.join (α := Int) J24 (fun x25 => [(8, .int .i64 x25), (0, sv p_s), (1, sv p_substr), (5, .int .i64 (List.length p_substr : Int)), (6, .int .u8 (c14.toNat : Int)), (7, .int .u8 (c17.toNat : Int)), (9, .int .i64 (w .i64 ((w .i64 ((List.length p_s : Int) - (List.length p_substr : Int))) + 1))), (10, .int .i64 x20.2)]) ?_ ?_
            · skip
              refine GC.seq ?_
              refine GC.region ?_
              refine GL.val trivial rfl (OV.move (v := sv p_s) rfl) ?_
              refine GL.val trivial rfl (OV.move (v := .int .i64 x20.1) rfl) ?_
              obtain ⟨c28, ha29, hb30, h⟩ := h
              refine GL.val trivial rfl (OV.indexStr (s := p_s) rfl rfl rfl ha29 hb30) ?_
              refine GL.val trivial rfl (OV.move (v := .int .u8 (c14.toNat : Int)) rfl) ?_
              refine GL.val trivial rfl (OV.ibin (v := .bool (((c28.toNat : Int) : Int) != (c14.toNat : Int))) rfl rfl rfl) ?_
              refine GL.nil ?_
              refine GC.cond (b := ((c28.toNat : Int) : Int) != (c14.toNat : Int)) rfl (fun hc31 => ?_) (fun hc31 => ?_)
              · replace h := And.left h hc31
                refine GC.seq ?_
                refine GC.region ?_
                refine GL.val trivial rfl (OV.move (v := sv p_s) rfl) ?_
                refine GL.val trivial rfl (OV.move (v := .int .i64 x20.1) rfl) ?_
                refine GL.val trivial rfl (OV.ibin (v := .int .i64 (w .i64 (x20.1 + 1))) rfl rfl rfl) ?_
                refine GL.val trivial rfl (OV.move (v := .int .i64 (w .i64 ((w .i64 ((List.length p_s : Int) - (List.length p_substr : Int))) + 1))) rfl) ?_
                obtain ⟨h33, h34, h35, t32, h36, h⟩ := h
                refine GL.val trivial rfl (OV.sliceStr (s := p_s) h33 h34 h35 h36 rfl rfl rfl rfl rfl rfl) ?_
                refine GL.val trivial rfl (OV.move (v := .int .u8 (c14.toNat : Int)) rfl) ?_
                refine GL.call h trivial rfl ok_internal_stringslite_IndexByte (vs := [sv t32, .int .u8 (c14.toNat : Int)]) rfl ?_
                rintro _ H39 ⟨r38, rfl, h⟩
                refine GL.val trivial rfl (OV.assign (v := .int .i64 r38) rfl) ?_
                refine GL.nil ?_
                refine GC.seq ?_
                refine GC.seq ?_
                refine GC.region ?_
                refine GL.val trivial rfl (OV.move (v := .int .i64 r38) rfl) ?_
                refine GL.val trivial rfl (OV.ibin (v := .bool (decide ((r38 : Int) < 0))) rfl rfl rfl) ?_
                refine GL.nil ?_
                refine GC.cond (b := decide ((r38 : Int) < 0)) rfl (fun hc40 => ?_) (fun hc40 => ?_)
                · replace h := And.left h hc40
                  refine GC.seq ?_
                  refine GC.region ?_
                  refine GL.val trivial rfl (OV.assign (v := .int .i64 (-1)) rfl) ?_
                  refine GL.nil ?_
                  exact GC.ret (fun _ _ hf hs => post_tmp1 rfl rfl hf hs ⟨(-1), rfl, h⟩)
                · replace h := And.right h hc40
                  refine GC.skip ?_
                  refine GC.region ?_
                  refine GL.val trivial rfl (OV.move (v := .int .i64 x20.1) rfl) ?_
                  refine GL.val trivial rfl (OV.move (v := .int .i64 r38) rfl) ?_
                  refine GL.val trivial rfl (OV.ibin (v := .int .i64 (w .i64 (r38 + 1))) rfl rfl rfl) ?_
                  refine GL.val trivial rfl (OV.ibin (v := .int .i64 (w .i64 (x20.1 + (w .i64 (r38 + 1))))) rfl rfl rfl) ?_
                  refine GL.val trivial rfl (OV.assign (v := .int .i64 (w .i64 (x20.1 + (w .i64 (r38 + 1))))) rfl) ?_
                  exact GL.jump (fun _ _ h => h) (w .i64 (x20.1 + (w .i64 (r38 + 1)))) h ⟨rfl, rfl, rfl, rfl, rfl, rfl, rfl, rfl, trivial⟩
              · replace h := And.right h hc31
                exact GC.jump (fun _ _ h => h) x20.1 h ⟨rfl, rfl, rfl, rfl, rfl, rfl, rfl, rfl, trivial⟩
            · intro x25 H26 h
              replace h := hR27 x25 H26 h
              refine GC.seq ?_
              refine GC.seq ?_
              refine GC.region ?_
              refine GL.val trivial rfl (OV.move (v := sv p_s) rfl) ?_
              refine GL.val trivial rfl (OV.move (v := .int .i64 x25) rfl) ?_
              refine GL.val trivial rfl (OV.ibin (v := .int .i64 (w .i64 (x25 + 1))) rfl rfl rfl) ?_
              obtain ⟨c41, ha42, hb43, h⟩ := h
              refine GL.val trivial rfl (OV.indexStr (s := p_s) rfl rfl rfl ha42 hb43) ?_
              refine GL.val trivial rfl (OV.move (v := .int .u8 (c17.toNat : Int)) rfl) ?_
              refine GL.val trivial rfl (OV.ibin (v := .bool (((c41.toNat : Int) : Int) == (c17.toNat : Int))) rfl rfl rfl) ?_
              refine GL.val trivial rfl (OV.move (v := .bool (((c41.toNat : Int) : Int) == (c17.toNat : Int))) rfl) ?_
              obtain ⟨J45, h, hR46⟩ := h
              refine GL.cut (α := Bool) 9 J45 (fun b44 => [(93, .bool b44), (0, sv p_s), (1, sv p_substr), (5, .int .i64 (List.length p_substr : Int)), (6, .int .u8 (c14.toNat : Int)), (7, .int .u8 (c17.toNat : Int)), (8, .int .i64 x25), (9, .int .i64 (w .i64 ((w .i64 ((List.length p_s : Int) - (List.length p_substr : Int))) + 1))), (10, .int .i64 x20.2)]) ?_ ?_
              · rcases Bool.eq_false_or_eq_true (((c41.toNat : Int) : Int) == (c17.toNat : Int)) with hc47 | hc47
                · skip
                  replace h := And.left h hc47
                  refine GL.val ⟨_, _, rfl, rfl, hc47⟩ rfl (OV.move (v := sv p_s) rfl) ?_
                  refine GL.val ⟨_, _, rfl, rfl, hc47⟩ rfl (OV.move (v := .int .i64 x25) rfl) ?_
                  refine GL.val ⟨_, _, rfl, rfl, hc47⟩ rfl (OV.move (v := .int .i64 x25) rfl) ?_
                  refine GL.val ⟨_, _, rfl, rfl, hc47⟩ rfl (OV.move (v := .int .i64 (List.length p_substr : Int)) rfl) ?_
                  refine GL.val ⟨_, _, rfl, rfl, hc47⟩ rfl (OV.ibin (v := .int .i64 (w .i64 (x25 + (List.length p_substr : Int)))) rfl rfl rfl) ?_
                  obtain ⟨h49, h50, h51, t48, h52, h⟩ := h
                  refine GL.val ⟨_, _, rfl, rfl, hc47⟩ rfl (OV.sliceStr (s := p_s) h49 h50 h51 h52 rfl rfl rfl rfl rfl rfl) ?_
                  refine GL.val ⟨_, _, rfl, rfl, hc47⟩ rfl (OV.move (v := sv p_substr) rfl) ?_
                  refine GL.val ⟨_, _, rfl, rfl, hc47⟩ rfl (OV.sbin (a := t48) (b := p_substr) (v := .bool (t48 == p_substr)) rfl rfl rfl) ?_
                  refine GL.val trivial rfl (OV.pickT (b := ((c41.toNat : Int) : Int) == (c17.toNat : Int)) (v := .bool (t48 == p_substr)) rfl hc47 rfl) ?_
                  exact GL.jump (fun _ _ h => h) (t48 == p_substr) h ⟨rfl, rfl, rfl, rfl, rfl, rfl, rfl, rfl, rfl, trivial⟩
                · skip
                  replace h := And.right h hc47
                  refine GL.skip ⟨_, rfl, .inl ⟨_, rfl, hc47⟩⟩ rfl ?_
                  refine GL.skip ⟨_, rfl, .inl ⟨_, rfl, hc47⟩⟩ rfl ?_
                  refine GL.skip ⟨_, rfl, .inl ⟨_, rfl, hc47⟩⟩ rfl ?_
                  refine GL.skip ⟨_, rfl, .inl ⟨_, rfl, hc47⟩⟩ rfl ?_
                  refine GL.skip ⟨_, rfl, .inl ⟨_, rfl, hc47⟩⟩ rfl ?_
                  refine GL.skip ⟨_, rfl, .inl ⟨_, rfl, hc47⟩⟩ rfl ?_
                  refine GL.skip ⟨_, rfl, .inl ⟨_, rfl, hc47⟩⟩ rfl ?_
                  refine GL.skip ⟨_, rfl, .inl ⟨_, rfl, hc47⟩⟩ rfl ?_
                  refine GL.val trivial rfl (OV.pickF (b := ((c41.toNat : Int) : Int) == (c17.toNat : Int)) (v := .bool false) rfl hc47 rfl) ?_
                  exact GL.jump (fun _ _ h => h) false h ⟨rfl, rfl, rfl, rfl, rfl, rfl, rfl, rfl, rfl, trivial⟩
              intro b44 H54 h
              replace h := hR46 b44 H54 h
              refine GL.nil ?_
              refine GC.cond (b := b44) rfl (fun hc55 => ?_) (fun hc55 => ?_)
              · replace h := And.left h hc55
                refine GC.seq ?_
                refine GC.region ?_
                refine GL.val trivial rfl (OV.move (v := .int .i64 x25) rfl) ?_
                refine GL.val trivial rfl (OV.assign (v := .int .i64 x25) rfl) ?_
                refine GL.nil ?_
                exact GC.ret (fun _ _ hf hs => post_tmp1 rfl rfl hf hs ⟨x25, rfl, h⟩)
              · replace h := And.right h hc55
                refine GC.skip ?_
                refine GC.seq ?_
                refine GC.region ?_
                refine GL.val trivial rfl (OV.move (v := .int .i64 x25) rfl) ?_
                refine GL.val trivial rfl (OV.ibin (v := .int .i64 (w .i64 (x25 + 1))) rfl rfl rfl) ?_
                refine GL.val trivial rfl (OV.assign (v := .int .i64 (w .i64 (x25 + 1))) rfl) ?_
                refine GL.nil ?_
                refine GC.seq ?_
                refine GC.region ?_
                refine GL.val trivial rfl (OV.move (v := .int .i64 x20.2) rfl) ?_
                refine GL.val trivial rfl (OV.ibin (v := .int .i64 (w .i64 (x20.2 + 1))) rfl rfl rfl) ?_
                refine GL.val trivial rfl (OV.assign (v := .int .i64 (w .i64 (x20.2 + 1))) rfl) ?_
                refine GL.nil ?_
                refine GC.seq ?_
                refine GC.region ?_
                refine GL.val trivial rfl (OV.move (v := .int .i64 (List.length p_substr : Int)) rfl) ?_
                obtain ⟨x56, hr57, h⟩ := h
                refine GL.val trivial rfl (OV.load (p := (1, 0)) rfl rfl hr57) ?_
                refine GL.val trivial rfl (OV.ibin (v := .bool (decide (((List.length p_substr : Int) : Int) ≤ x56))) rfl rfl rfl) ?_
                refine GL.val trivial rfl (OV.move (v := .bool (decide (((List.length p_substr : Int) : Int) ≤ x56))) rfl) ?_
                obtain ⟨J59, h, hR60⟩ := h
                refine GL.cut (α := Bool) 5 J59 (fun b58 => [(107, .bool b58), (0, sv p_s), (1, sv p_substr), (5, .int .i64 (List.length p_substr : Int)), (6, .int .u8 (c14.toNat : Int)), (7, .int .u8 (c17.toNat : Int)), (8, .int .i64 (w .i64 (x25 + 1))), (9, .int .i64 (w .i64 ((w .i64 ((List.length p_s : Int) - (List.length p_substr : Int))) + 1))), (10, .int .i64 (w .i64 (x20.2 + 1)))]) ?_ ?_
                · rcases Bool.eq_false_or_eq_true (decide (((List.length p_substr : Int) : Int) ≤ x56)) with hc61 | hc61
                  · skip
                    replace h := And.left h hc61
                    refine GL.val ⟨_, _, rfl, rfl, hc61⟩ rfl (OV.move (v := .int .i64 (w .i64 (x20.2 + 1))) rfl) ?_
                    refine GL.val ⟨_, _, rfl, rfl, hc61⟩ rfl (OV.move (v := .int .i64 (w .i64 (x25 + 1))) rfl) ?_
                    refine GL.call h ⟨_, _, rfl, rfl, hc61⟩ rfl ok_internal_bytealg_Cutover (vs := [.int .i64 (w .i64 (x25 + 1))]) rfl ?_
                    rintro _ H63 ⟨r62, rfl, h⟩
                    refine GL.val ⟨_, _, rfl, rfl, hc61⟩ rfl (OV.ibin (v := .bool (decide (((w .i64 (x20.2 + 1)) : Int) > r62))) rfl rfl rfl) ?_
                    refine GL.val trivial rfl (OV.pickT (b := decide (((List.length p_substr : Int) : Int) ≤ x56)) (v := .bool (decide (((w .i64 (x20.2 + 1)) : Int) > r62))) rfl hc61 rfl) ?_
                    exact GL.jump (fun _ _ h => h) (decide (((w .i64 (x20.2 + 1)) : Int) > r62)) h ⟨rfl, rfl, rfl, rfl, rfl, rfl, rfl, rfl, rfl, trivial⟩
                  · skip
                    replace h := And.right h hc61
                    refine GL.skip ⟨_, rfl, .inl ⟨_, rfl, hc61⟩⟩ rfl ?_
                    refine GL.skip ⟨_, rfl, .inl ⟨_, rfl, hc61⟩⟩ rfl ?_
                    refine GL.skip ⟨_, rfl, .inl ⟨_, rfl, hc61⟩⟩ rfl ?_
                    refine GL.skip ⟨_, rfl, .inl ⟨_, rfl, hc61⟩⟩ rfl ?_
                    refine GL.val trivial rfl (OV.pickF (b := decide (((List.length p_substr : Int) : Int) ≤ x56)) (v := .bool false) rfl hc61 rfl) ?_
                    exact GL.jump (fun _ _ h => h) false h ⟨rfl, rfl, rfl, rfl, rfl, rfl, rfl, rfl, rfl, trivial⟩
                intro b58 H64 h
                replace h := hR60 b58 H64 h
                refine GL.nil ?_
                refine GC.cond (b := b58) rfl (fun hc65 => ?_) (fun hc65 => ?_)
                · replace h := And.left h hc65
                  refine GC.seq ?_
                  exact GC.never h
                · replace h := And.right h hc65
                  refine GC.seq ?_
                  refine GC.region ?_
                  refine GL.val trivial rfl (OV.move (v := .int .i64 (List.length p_substr : Int)) rfl) ?_
                  obtain ⟨x72, hr73, h⟩ := h
                  refine GL.val trivial rfl (OV.load (p := (1, 0)) rfl rfl hr73) ?_
                  refine GL.val trivial rfl (OV.ibin (v := .bool (decide (((List.length p_substr : Int) : Int) > x72))) rfl rfl rfl) ?_
                  refine GL.val trivial rfl (OV.move (v := .bool (decide (((List.length p_substr : Int) : Int) > x72))) rfl) ?_
                  refine GL.cut0 6 [(127, .bool ((decide (((List.length p_substr : Int) : Int) > x72)) && (decide (((w .i64 (x20.2 + 1)) : Int) ≥ (w .i64 (4 + (sShr .i64 (w .i64 (x25 + 1)) 4))))))), (0, sv p_s), (1, sv p_substr), (5, .int .i64 (List.length p_substr : Int)), (6, .int .u8 (c14.toNat : Int)), (7, .int .u8 (c17.toNat : Int)), (8, .int .i64 (w .i64 (x25 + 1))), (9, .int .i64 (w .i64 ((w .i64 ((List.length p_s : Int) - (List.length p_substr : Int))) + 1))), (10, .int .i64 (w .i64 (x20.2 + 1)))] ?_ ?_
                  · rcases Bool.eq_false_or_eq_true (decide (((List.length p_substr : Int) : Int) > x72)) with hc74 | hc74
                    · skip
                      refine GL.val ⟨_, _, rfl, rfl, hc74⟩ rfl (OV.move (v := .int .i64 (w .i64 (x20.2 + 1))) rfl) ?_
                      refine GL.val ⟨_, _, rfl, rfl, hc74⟩ rfl (OV.move (v := .int .i64 (w .i64 (x25 + 1))) rfl) ?_
                      refine GL.val ⟨_, _, rfl, rfl, hc74⟩ rfl (OV.shr rfl rfl (by decide)) ?_
                      refine GL.val ⟨_, _, rfl, rfl, hc74⟩ rfl (OV.ibin (v := .int .i64 (w .i64 (4 + (sShr .i64 (w .i64 (x25 + 1)) 4)))) rfl rfl rfl) ?_
                      refine GL.val ⟨_, _, rfl, rfl, hc74⟩ rfl (OV.ibin (v := .bool (decide (((w .i64 (x20.2 + 1)) : Int) ≥ (w .i64 (4 + (sShr .i64 (w .i64 (x25 + 1)) 4)))))) rfl rfl rfl) ?_
                      refine GL.val trivial rfl (OV.pickT (b := decide (((List.length p_substr : Int) : Int) > x72)) (v := .bool (decide (((w .i64 (x20.2 + 1)) : Int) ≥ (w .i64 (4 + (sShr .i64 (w .i64 (x25 + 1)) 4)))))) rfl hc74 rfl) ?_
                      exact GL.jump0 (fun _ _ h => h) () rfl ⟨(by rw [hc74]; rfl), rfl, rfl, rfl, rfl, rfl, rfl, rfl, rfl, trivial⟩
                    · skip
                      refine GL.skip ⟨_, rfl, .inl ⟨_, rfl, hc74⟩⟩ rfl ?_
                      refine GL.skip ⟨_, rfl, .inl ⟨_, rfl, hc74⟩⟩ rfl ?_
                      refine GL.skip ⟨_, rfl, .inl ⟨_, rfl, hc74⟩⟩ rfl ?_
                      refine GL.skip ⟨_, rfl, .inl ⟨_, rfl, hc74⟩⟩ rfl ?_
                      refine GL.skip ⟨_, rfl, .inl ⟨_, rfl, hc74⟩⟩ rfl ?_
                      refine GL.val trivial rfl (OV.pickF (b := decide (((List.length p_substr : Int) : Int) > x72)) (v := .bool false) rfl hc74 rfl) ?_
                      exact GL.jump0 (fun _ _ h => h) () rfl ⟨(by rw [hc74]; rfl), rfl, rfl, rfl, rfl, rfl, rfl, rfl, rfl, trivial⟩
                  refine GL.val trivial rfl (OV.move (v := .bool ((decide (((List.length p_substr : Int) : Int) > x72)) && (decide (((w .i64 (x20.2 + 1)) : Int) ≥ (w .i64 (4 + (sShr .i64 (w .i64 (x25 + 1)) 4))))))) rfl) ?_
                  refine GL.cut0 4 [(132, .bool (((decide (((List.length p_substr : Int) : Int) > x72)) && (decide (((w .i64 (x20.2 + 1)) : Int) ≥ (w .i64 (4 + (sShr .i64 (w .i64 (x25 + 1)) 4)))))) && (decide (((w .i64 (x25 + 1)) : Int) < (w .i64 ((w .i64 ((List.length p_s : Int) - (List.length p_substr : Int))) + 1)))))), (0, sv p_s), (1, sv p_substr), (5, .int .i64 (List.length p_substr : Int)), (6, .int .u8 (c14.toNat : Int)), (7, .int .u8 (c17.toNat : Int)), (8, .int .i64 (w .i64 (x25 + 1))), (9, .int .i64 (w .i64 ((w .i64 ((List.length p_s : Int) - (List.length p_substr : Int))) + 1))), (10, .int .i64 (w .i64 (x20.2 + 1)))] ?_ ?_
                  · rcases Bool.eq_false_or_eq_true ((decide (((List.length p_substr : Int) : Int) > x72)) && (decide (((w .i64 (x20.2 + 1)) : Int) ≥ (w .i64 (4 + (sShr .i64 (w .i64 (x25 + 1)) 4)))))) with hc75 | hc75
                    · skip
                      refine GL.val ⟨_, _, rfl, rfl, hc75⟩ rfl (OV.move (v := .int .i64 (w .i64 (x25 + 1))) rfl) ?_
                      refine GL.val ⟨_, _, rfl, rfl, hc75⟩ rfl (OV.move (v := .int .i64 (w .i64 ((w .i64 ((List.length p_s : Int) - (List.length p_substr : Int))) + 1))) rfl) ?_
                      refine GL.val ⟨_, _, rfl, rfl, hc75⟩ rfl (OV.ibin (v := .bool (decide (((w .i64 (x25 + 1)) : Int) < (w .i64 ((w .i64 ((List.length p_s : Int) - (List.length p_substr : Int))) + 1))))) rfl rfl rfl) ?_
                      refine GL.val trivial rfl (OV.pickT (b := (decide (((List.length p_substr : Int) : Int) > x72)) && (decide (((w .i64 (x20.2 + 1)) : Int) ≥ (w .i64 (4 + (sShr .i64 (w .i64 (x25 + 1)) 4)))))) (v := .bool (decide (((w .i64 (x25 + 1)) : Int) < (w .i64 ((w .i64 ((List.length p_s : Int) - (List.length p_substr : Int))) + 1))))) rfl hc75 rfl) ?_
                      exact GL.jump0 (fun _ _ h => h) () rfl ⟨(by rw [hc75]; rfl), rfl, rfl, rfl, rfl, rfl, rfl, rfl, rfl, trivial⟩
                    · skip
                      refine GL.skip ⟨_, rfl, .inl ⟨_, rfl, hc75⟩⟩ rfl ?_
                      refine GL.skip ⟨_, rfl, .inl ⟨_, rfl, hc75⟩⟩ rfl ?_
                      refine GL.skip ⟨_, rfl, .inl ⟨_, rfl, hc75⟩⟩ rfl ?_
                      refine GL.val trivial rfl (OV.pickF (b := (decide (((List.length p_substr : Int) : Int) > x72)) && (decide (((w .i64 (x20.2 + 1)) : Int) ≥ (w .i64 (4 + (sShr .i64 (w .i64 (x25 + 1)) 4)))))) (v := .bool false) rfl hc75 rfl) ?_
                      exact GL.jump0 (fun _ _ h => h) () rfl ⟨(by rw [hc75]; rfl), rfl, rfl, rfl, rfl, rfl, rfl, rfl, rfl, trivial⟩
                  refine GL.nil ?_
                  refine GC.cond (b := ((decide (((List.length p_substr : Int) : Int) > x72)) && (decide (((w .i64 (x20.2 + 1)) : Int) ≥ (w .i64 (4 + (sShr .i64 (w .i64 (x25 + 1)) 4)))))) && (decide (((w .i64 (x25 + 1)) : Int) < (w .i64 ((w .i64 ((List.length p_s : Int) - (List.length p_substr : Int))) + 1))))) rfl (fun hc76 => ?_) (fun hc76 => ?_)
                  · replace h := And.left h hc76
                    refine GC.seq ?_
                    refine GC.region ?_
                    refine GL.val trivial rfl (OV.move (v := sv p_s) rfl) ?_
                    refine GL.val trivial rfl (OV.move (v := .int .i64 (w .i64 (x25 + 1))) rfl) ?_
                    obtain ⟨h78, h79, h80, t77, h81, h⟩ := h
                    refine GL.val trivial rfl (OV.sliceStr (s := p_s) h78 h79 h80 h81 rfl rfl rfl rfl rfl rfl) ?_
                    refine GL.val trivial rfl (OV.move (v := sv p_substr) rfl) ?_
                    refine GL.call h trivial rfl ok_internal_bytealg_IndexRabinKarp_string (vs := [sv t77, sv p_substr]) rfl ?_
                    rintro _ H84 ⟨r83, rfl, h⟩
                    refine GL.val trivial rfl (OV.assign (v := .int .i64 r83) rfl) ?_
                    refine GL.nil ?_
                    refine GC.seq ?_
                    refine GC.seq ?_
                    refine GC.region ?_
                    refine GL.val trivial rfl (OV.move (v := .int .i64 r83) rfl) ?_
                    refine GL.val trivial rfl (OV.ibin (v := .bool (decide ((r83 : Int) < 0))) rfl rfl rfl) ?_
                    refine GL.nil ?_
                    refine GC.cond (b := decide ((r83 : Int) < 0)) rfl (fun hc85 => ?_) (fun hc85 => ?_)
                    · replace h := And.left h hc85
                      refine GC.seq ?_
                      refine GC.region ?_
                      refine GL.val trivial rfl (OV.assign (v := .int .i64 (-1)) rfl) ?_
                      refine GL.nil ?_
                      exact GC.ret (fun _ _ hf hs => post_tmp1 rfl rfl hf hs ⟨(-1), rfl, h⟩)
                    · replace h := And.right h hc85
                      refine GC.skip ?_
                      refine GC.seq ?_
                      refine GC.region ?_
                      refine GL.val trivial rfl (OV.move (v := .int .i64 (w .i64 (x25 + 1))) rfl) ?_
                      refine GL.val trivial rfl (OV.move (v := .int .i64 r83) rfl) ?_
                      refine GL.val trivial rfl (OV.ibin (v := .int .i64 (w .i64 ((w .i64 (x25 + 1)) + r83))) rfl rfl rfl) ?_
                      refine GL.val trivial rfl (OV.assign (v := .int .i64 (w .i64 ((w .i64 (x25 + 1)) + r83))) rfl) ?_
                      refine GL.nil ?_
                      exact GC.ret (fun _ _ hf hs => post_tmp1 rfl rfl hf hs ⟨(w .i64 ((w .i64 (x25 + 1)) + r83)), rfl, h⟩)
                  · replace h := And.right h hc76
                    exact GC.jump (fun _ _ h => h) ((w .i64 (x25 + 1)), (w .i64 (x20.2 + 1))) h ⟨rfl, rfl, rfl, rfl, rfl, rfl, rfl, rfl, trivial⟩
          · replace h := And.right h hc23
            refine GC.exit_to (fun _ _ h => h) ?_
            refine GC.seq ?_
            refine GC.region ?_
            refine GL.val trivial rfl (OV.assign (v := .int .i64 (-1)) rfl) ?_
            refine GL.nil ?_
            exact GC.ret (fun _ _ hf hs => post_tmp1 rfl rfl hf hs ⟨(-1), rfl, h⟩)

def sh_cmp_isNaN_uint8 (C : Ctx) (p_x : Int) (K : Bool → Heap → Prop) (H : Heap) : Prop :=
  K ((p_x : Int) != p_x) H

theorem ad_cmp_isNaN_uint8 (C : Ctx) (p_x : Int) (K : Bool → Heap → Prop) (H : Heap) (h : sh_cmp_isNaN_uint8 C p_x K H) : c_cmp_isNaN_uint8 C p_x K H := by
  refine Spec.enter Tryd.func83 rfl Tryd.ntmps83 rfl ?_
  refine GC.sub [(0, .int .u8 p_x)] ⟨rfl, trivial⟩ ?_
  refine GC.seq ?_
  refine GC.region ?_
  refine GL.val trivial rfl (OV.assign (v := .bool false) rfl) ?_
  refine GL.nil ?_
  refine GC.seq ?_
  refine GC.region ?_
  refine GL.val trivial rfl (OV.move (v := .int .u8 p_x) rfl) ?_
  refine GL.val trivial rfl (OV.move (v := .int .u8 p_x) rfl) ?_
  refine GL.val trivial rfl (OV.ibin (v := .bool ((p_x : Int) != p_x)) rfl rfl rfl) ?_
  refine GL.val trivial rfl (OV.assign (v := .bool ((p_x : Int) != p_x)) rfl) ?_
  refine GL.nil ?_
  exact GC.ret (fun _ _ hf hs => post_tmp1 rfl rfl hf hs ⟨((p_x : Int) != p_x), rfl, h⟩)

def sh_strings_HasPrefix (C : Ctx) (p_s : Str) (p_prefix : Str) (K : Bool → Heap → Prop) (H : Heap) : Prop :=
  c_internal_stringslite_HasPrefix C p_s p_prefix (fun r1 H2 =>
 K r1 H2) H

theorem ad_strings_HasPrefix (C : Ctx) (p_s : Str) (p_prefix : Str) (K : Bool → Heap → Prop) (H : Heap) (h : sh_strings_HasPrefix C p_s p_prefix K H) : c_strings_HasPrefix C p_s p_prefix K H := by
  refine Spec.enter Tryd.func84 rfl Tryd.ntmps84 rfl ?_
  refine GC.sub [(0, sv p_s), (1, sv p_prefix)] ⟨rfl, rfl, trivial⟩ ?_
  refine GC.seq ?_
  refine GC.region ?_
  refine GL.val trivial rfl (OV.assign (v := .bool false) rfl) ?_
  refine GL.nil ?_
  refine GC.seq ?_
  refine GC.region ?_
  refine GL.val trivial rfl (OV.move (v := sv p_s) rfl) ?_
  refine GL.val trivial rfl (OV.move (v := sv p_prefix) rfl) ?_
  refine GL.call h trivial rfl ok_internal_stringslite_HasPrefix (vs := [sv p_s, sv p_prefix]) rfl ?_
  rintro _ H2 ⟨r1, rfl, h⟩
  refine GL.val trivial rfl (OV.assign (v := .bool r1) rfl) ?_
  refine GL.nil ?_
  exact GC.ret (fun _ _ hf hs => post_tmp1 rfl rfl hf hs ⟨r1, rfl, h⟩)

def sh_cmp_Compare_int (C : Ctx) (p_x : Int) (p_y : Int) (K : Int → Heap → Prop) (H : Heap) : Prop :=
  c_cmp_isNaN_int C p_x (fun r1 H2 =>
 c_cmp_isNaN_int C p_y (fun r3 H4 =>
 ift r1
 (ift r3
 (K 0 H4)
 (K (-1) H4))
 (ift r3
 (K 1 H4)
 (ift (decide ((p_x : Int) < p_y))
 (K (-1) H4)
 (ift (decide ((p_x : Int) > p_y))
 (K 1 H4)
 (K 0 H4))))) H2) H

theorem ad_cmp_Compare_int (C : Ctx) (p_x : Int) (p_y : Int) (K : Int → Heap → Prop) (H : Heap) (h : sh_cmp_Compare_int C p_x p_y K H) : c_cmp_Compare_int C p_x p_y K H := by
  refine Spec.enter Tryd.func85 rfl Tryd.ntmps85 rfl ?_
  refine GC.sub [(0, .int .i64 p_x), (1, .int .i64 p_y)] ⟨rfl, rfl, trivial⟩ ?_
  refine GC.seq ?_
  refine GC.region ?_
  refine GL.val trivial rfl (OV.assign (v := .int .i64 0) rfl) ?_
  refine GL.nil ?_
  refine GC.seq ?_
  refine GC.region ?_
  refine GL.val trivial rfl (OV.move (v := .int .i64 p_x) rfl) ?_
  refine GL.call h trivial rfl ok_cmp_isNaN_int (vs := [.int .i64 p_x]) rfl ?_
  rintro _ H2 ⟨r1, rfl, h⟩
  refine GL.val trivial rfl (OV.assign (v := .bool r1) rfl) ?_
  refine GL.nil ?_
  refine GC.seq ?_
  refine GC.region ?_
  refine GL.val trivial rfl (OV.move (v := .int .i64 p_y) rfl) ?_
  refine GL.call h trivial rfl ok_cmp_isNaN_int (vs := [.int .i64 p_y]) rfl ?_
  rintro _ H4 ⟨r3, rfl, h⟩
  refine GL.val trivial rfl (OV.assign (v := .bool r3) rfl) ?_
  refine GL.nil ?_
  refine GC.seq ?_
  refine GC.seq ?_
  refine GC.region ?_
  refine GL.val trivial rfl (OV.move (v := .bool r1) rfl) ?_
  refine GL.nil ?_
  refine GC.cond (b := r1) rfl (fun hc5 => ?_) (fun hc5 => ?_)
  · replace h := And.left h hc5
    refine GC.seq ?_
    refine GC.seq ?_
    refine GC.region ?_
    refine GL.val trivial rfl (OV.move (v := .bool r3) rfl) ?_
    refine GL.nil ?_
    refine GC.cond (b := r3) rfl (fun hc6 => ?_) (fun hc6 => ?_)
    · replace h := And.left h hc6
      refine GC.seq ?_
      refine GC.region ?_
      refine GL.val trivial rfl (OV.assign (v := .int .i64 0) rfl) ?_
      refine GL.nil ?_
      exact GC.ret (fun _ _ hf hs => post_tmp1 rfl rfl hf hs ⟨0, rfl, h⟩)
    · replace h := And.right h hc6
      refine GC.skip ?_
      refine GC.seq ?_
      refine GC.region ?_
      refine GL.val trivial rfl (OV.assign (v := .int .i64 (-1)) rfl) ?_
      refine GL.nil ?_
      exact GC.ret (fun _ _ hf hs => post_tmp1 rfl rfl hf hs ⟨(-1), rfl, h⟩)
  · replace h := And.right h hc5
    refine GC.skip ?_
    refine GC.seq ?_
    refine GC.seq ?_
    refine GC.region ?_
    refine GL.val trivial rfl (OV.move (v := .bool r3) rfl) ?_
    refine GL.nil ?_
    refine GC.cond (b := r3) rfl (fun hc7 => ?_) (fun hc7 => ?_)
    · replace h := And.left h hc7
      refine GC.seq ?_
      refine GC.region ?_
      refine GL.val trivial rfl (OV.assign (v := .int .i64 1) rfl) ?_
      refine GL.nil ?_
      exact GC.ret (fun _ _ hf hs => post_tmp1 rfl rfl hf hs ⟨1, rfl, h⟩)
    · replace h := And.right h hc7
      refine GC.skip ?_
      refine GC.seq ?_
      refine GC.seq ?_
      refine GC.region ?_
      refine GL.val trivial rfl (OV.move (v := .int .i64 p_x) rfl) ?_
      refine GL.val trivial rfl (OV.move (v := .int .i64 p_y) rfl) ?_
      refine GL.val trivial rfl (OV.ibin (v := .bool (decide ((p_x : Int) < p_y))) rfl rfl rfl) ?_
      refine GL.nil ?_
      refine GC.cond (b := decide ((p_x : Int) < p_y)) rfl (fun hc8 => ?_) (fun hc8 => ?_)
      · replace h := And.left h hc8
        refine GC.seq ?_
        refine GC.region ?_
        refine GL.val trivial rfl (OV.assign (v := .int .i64 (-1)) rfl) ?_
        refine GL.nil ?_
        exact GC.ret (fun _ _ hf hs => post_tmp1 rfl rfl hf hs ⟨(-1), rfl, h⟩)
      · replace h := And.right h hc8
        refine GC.skip ?_
        refine GC.seq ?_
        refine GC.seq ?_
        refine GC.region ?_
        refine GL.val trivial rfl (OV.move (v := .int .i64 p_x) rfl) ?_
        refine GL.val trivial rfl (OV.move (v := .int .i64 p_y) rfl) ?_
        refine GL.val trivial rfl (OV.ibin (v := .bool (decide ((p_x : Int) > p_y))) rfl rfl rfl) ?_
        refine GL.nil ?_
        refine GC.cond (b := decide ((p_x : Int) > p_y)) rfl (fun hc9 => ?_) (fun hc9 => ?_)
        · replace h := And.left h hc9
          refine GC.seq ?_
          refine GC.region ?_
          refine GL.val trivial rfl (OV.assign (v := .int .i64 1) rfl) ?_
          refine GL.nil ?_
          exact GC.ret (fun _ _ hf hs => post_tmp1 rfl rfl hf hs ⟨1, rfl, h⟩)
        · replace h := And.right h hc9
          refine GC.skip ?_
          refine GC.seq ?_
          refine GC.region ?_
          refine GL.val trivial rfl (OV.assign (v := .int .i64 0) rfl) ?_
          refine GL.nil ?_
          exact GC.ret (fun _ _ hf hs => post_tmp1 rfl rfl hf hs ⟨0, rfl, h⟩)

def sh_cmp_isNaN_string (C : Ctx) (p_x : Str) (K : Bool → Heap → Prop) (H : Heap) : Prop :=
  K (!(p_x == p_x)) H

theorem ad_cmp_isNaN_string (C : Ctx) (p_x : Str) (K : Bool → Heap → Prop) (H : Heap) (h : sh_cmp_isNaN_string C p_x K H) : c_cmp_isNaN_string C p_x K H := by
  refine Spec.enter Tryd.func86 rfl Tryd.ntmps86 rfl ?_
  refine GC.sub [(0, sv p_x)] ⟨rfl, trivial⟩ ?_
  refine GC.seq ?_
  refine GC.region ?_
  refine GL.val trivial rfl (OV.assign (v := .bool false) rfl) ?_
  refine GL.nil ?_
  refine GC.seq ?_
  refine GC.region ?_
  refine GL.val trivial rfl (OV.move (v := sv p_x) rfl) ?_
  refine GL.val trivial rfl (OV.move (v := sv p_x) rfl) ?_
  refine GL.val trivial rfl (OV.sbin (a := p_x) (b := p_x) (v := .bool (!(p_x == p_x))) rfl rfl rfl) ?_
  refine GL.val trivial rfl (OV.assign (v := .bool (!(p_x == p_x))) rfl) ?_
  refine GL.nil ?_
  exact GC.ret (fun _ _ hf hs => post_tmp1 rfl rfl hf hs ⟨(!(p_x == p_x)), rfl, h⟩)

def sh_cmp_isNaN_int64 (C : Ctx) (p_x : Int) (K : Bool → Heap → Prop) (H : Heap) : Prop :=
  K ((p_x : Int) != p_x) H

theorem ad_cmp_isNaN_int64 (C : Ctx) (p_x : Int) (K : Bool → Heap → Prop) (H : Heap) (h : sh_cmp_isNaN_int64 C p_x K H) : c_cmp_isNaN_int64 C p_x K H := by
  refine Spec.enter Tryd.func87 rfl Tryd.ntmps87 rfl ?_
  refine GC.sub [(0, .int .i64 p_x)] ⟨rfl, trivial⟩ ?_
  refine GC.seq ?_
  refine GC.region ?_
  refine GL.val trivial rfl (OV.assign (v := .bool false) rfl) ?_
  refine GL.nil ?_
  refine GC.seq ?_
  refine GC.region ?_
  refine GL.val trivial rfl (OV.move (v := .int .i64 p_x) rfl) ?_
  refine GL.val trivial rfl (OV.move (v := .int .i64 p_x) rfl) ?_
  refine GL.val trivial rfl (OV.ibin (v := .bool ((p_x : Int) != p_x)) rfl rfl rfl) ?_
  refine GL.val trivial rfl (OV.assign (v := .bool ((p_x : Int) != p_x)) rfl) ?_
  refine GL.nil ?_
  exact GC.ret (fun _ _ hf hs => post_tmp1 rfl rfl hf hs ⟨((p_x : Int) != p_x), rfl, h⟩)

def sh_slices_rotateCmpFunc_api_Value (C : Ctx) (p_data : Sl) (p_a : Int) (p_m : Int) (p_b : Int) (p_cmp : Value) (K : Heap → Prop) (H : Heap) : Prop :=
  lp (α := Int × Int) ((w .i64 (p_m - p_a)), (w .i64 (p_b - p_m))) H (fun x1 J2 H3 =>
 ift ((x1.1 : Int) != x1.2)
 (ift (decide ((x1.1 : Int) > x1.2))
 (c_slices_swapRangeCmpFunc_api_Value C p_data (w .i64 (p_m - x1.1)) p_m x1.2 p_cmp (fun H6 =>
 J2 ((w .i64 (x1.1 - x1.2)), x1.2) H6) H3)
 (c_slices_swapRangeCmpFunc_api_Value C p_data (w .i64 (p_m - x1.1)) (w .i64 ((w .i64 (p_m + x1.2)) - x1.1)) x1.1 p_cmp (fun H7 =>
 J2 (x1.1, (w .i64 (x1.2 - x1.1))) H7) H3))
 (c_slices_swapRangeCmpFunc_api_Value C p_data (w .i64 (p_m - x1.1)) p_m x1.1 p_cmp (fun H8 =>
 K H8) H3))

theorem ad_slices_rotateCmpFunc_api_Value (C : Ctx) (p_data : Sl) (p_a : Int) (p_m : Int) (p_b : Int) (p_cmp : Value) (K : Heap → Prop) (H : Heap) (h : sh_slices_rotateCmpFunc_api_Value C p_data p_a p_m p_b p_cmp K H) : c_slices_rotateCmpFunc_api_Value C p_data p_a p_m p_b p_cmp K H := by
  refine Spec.enter Tryd.func88 rfl Tryd.ntmps88 rfl ?_
  refine GC.sub [(0, slv p_data), (1, .int .i64 p_a), (2, .int .i64 p_m), (3, .int .i64 p_b), (4, p_cmp)] ⟨rfl, rfl, rfl, rfl, rfl, trivial⟩ ?_
  refine GC.seq ?_
  refine GC.region ?_
  refine GL.val trivial rfl (OV.move (v := .int .i64 p_m) rfl) ?_
  refine GL.val trivial rfl (OV.move (v := .int .i64 p_a) rfl) ?_
  refine GL.val trivial rfl (OV.ibin (v := .int .i64 (w .i64 (p_m - p_a))) rfl rfl rfl) ?_
  refine GL.val trivial rfl (OV.assign (v := .int .i64 (w .i64 (p_m - p_a))) rfl) ?_
  refine GL.nil ?_
  refine GC.seq ?_
  refine GC.region ?_
  refine GL.val trivial rfl (OV.move (v := .int .i64 p_b) rfl) ?_
  refine GL.val trivial rfl (OV.move (v := .int .i64 p_m) rfl) ?_
  refine GL.val trivial rfl (OV.ibin (v := .int .i64 (w .i64 (p_b - p_m))) rfl rfl rfl) ?_
  refine GL.val trivial rfl (OV.assign (v := .int .i64 (w .i64 (p_b - p_m))) rfl) ?_
  refine GL.nil ?_
  refine GC.seq ?_
  refine GC.block ?_
  refine GC.loop (α := Int × Int) h (fun x1 => [(10, .int .i64 x1.1), (11, .int .i64 x1.2), (0, slv p_data), (2, .int .i64 p_m), (4, p_cmp)]) ⟨rfl, rfl, rfl, rfl, rfl, trivial⟩ ?_
  intro x1 H3 J2 h
  refine GC.seq ?_
  refine GC.seq ?_
  refine GC.region ?_
  refine GL.val trivial rfl (OV.move (v := .int .i64 x1.1) rfl) ?_
  refine GL.val trivial rfl (OV.move (v := .int .i64 x1.2) rfl) ?_
  refine GL.val trivial rfl (OV.ibin (v := .bool ((x1.1 : Int) != x1.2)) rfl rfl rfl) ?_
  refine GL.nil ?_
  refine GC.cond (b := (x1.1 : Int) != x1.2) rfl (fun hc4 => ?_) (fun hc4 => ?_)
  · replace h := And.left h hc4
    refine GC.skip ?_
    refine GC.block ?_
    refine GC.seq ?_
    refine GC.region ?_
    refine GL.val trivial rfl (OV.move (v := .int .i64 x1.1) rfl) ?_
    refine GL.val trivial rfl (OV.move (v := .int .i64 x1.2) rfl) ?_
    refine GL.val trivial rfl (OV.ibin (v := .bool (decide ((x1.1 : Int) > x1.2))) rfl rfl rfl) ?_
    refine GL.nil ?_
    refine GC.cond (b := decide ((x1.1 : Int) > x1.2)) rfl (fun hc5 => ?_) (fun hc5 => ?_)
    · replace h := And.left h hc5
      refine GC.seq ?_
      refine GC.region ?_
      refine GL.val trivial rfl (OV.move (v := slv p_data) rfl) ?_
      refine GL.val trivial rfl (OV.move (v := .int .i64 p_m) rfl) ?_
      refine GL.val trivial rfl (OV.move (v := .int .i64 x1.1) rfl) ?_
      refine GL.val trivial rfl (OV.ibin (v := .int .i64 (w .i64 (p_m - x1.1))) rfl rfl rfl) ?_
      refine GL.val trivial rfl (OV.move (v := .int .i64 p_m) rfl) ?_
      refine GL.val trivial rfl (OV.move (v := .int .i64 x1.2) rfl) ?_
      refine GL.val trivial rfl (OV.move (v := p_cmp) rfl) ?_
      refine GL.call h trivial rfl ok_slices_swapRangeCmpFunc_api_Value (vs := [slv p_data, .int .i64 (w .i64 (p_m - x1.1)), .int .i64 p_m, .int .i64 x1.2, p_cmp]) rfl ?_
      rintro _ H6 ⟨rfl, h⟩
      refine GL.nil ?_
      refine GC.region ?_
      refine GL.val trivial rfl (OV.move (v := .int .i64 x1.1) rfl) ?_
      refine GL.val trivial rfl (OV.move (v := .int .i64 x1.2) rfl) ?_
      refine GL.val trivial rfl (OV.ibin (v := .int .i64 (w .i64 (x1.1 - x1.2))) rfl rfl rfl) ?_
      refine GL.val trivial rfl (OV.assign (v := .int .i64 (w .i64 (x1.1 - x1.2))) rfl) ?_
      exact GL.jump (fun _ _ h => h) ((w .i64 (x1.1 - x1.2)), x1.2) h ⟨rfl, rfl, rfl, rfl, rfl, trivial⟩
    · replace h := And.right h hc5
      refine GC.seq ?_
      refine GC.region ?_
      refine GL.val trivial rfl (OV.move (v := slv p_data) rfl) ?_
      refine GL.val trivial rfl (OV.move (v := .int .i64 p_m) rfl) ?_
      refine GL.val trivial rfl (OV.move (v := .int .i64 x1.1) rfl) ?_
      refine GL.val trivial rfl (OV.ibin (v := .int .i64 (w .i64 (p_m - x1.1))) rfl rfl rfl) ?_
      refine GL.val trivial rfl (OV.move (v := .int .i64 p_m) rfl) ?_
      refine GL.val trivial rfl (OV.move (v := .int .i64 x1.2) rfl) ?_
      refine GL.val trivial rfl (OV.ibin (v := .int .i64 (w .i64 (p_m + x1.2))) rfl rfl rfl) ?_
      refine GL.val trivial rfl (OV.move (v := .int .i64 x1.1) rfl) ?_
      refine GL.val trivial rfl (OV.ibin (v := .int .i64 (w .i64 ((w .i64 (p_m + x1.2)) - x1.1))) rfl rfl rfl) ?_
      refine GL.val trivial rfl (OV.move (v := .int .i64 x1.1) rfl) ?_
      refine GL.val trivial rfl (OV.move (v := p_cmp) rfl) ?_
      refine GL.call h trivial rfl ok_slices_swapRangeCmpFunc_api_Value (vs := [slv p_data, .int .i64 (w .i64 (p_m - x1.1)), .int .i64 (w .i64 ((w .i64 (p_m + x1.2)) - x1.1)), .int .i64 x1.1, p_cmp]) rfl ?_
      rintro _ H7 ⟨rfl, h⟩
      refine GL.nil ?_
      refine GC.region ?_
      refine GL.val trivial rfl (OV.move (v := .int .i64 x1.2) rfl) ?_
      refine GL.val trivial rfl (OV.move (v := .int .i64 x1.1) rfl) ?_
      refine GL.val trivial rfl (OV.ibin (v := .int .i64 (w .i64 (x1.2 - x1.1))) rfl rfl rfl) ?_
      refine GL.val trivial rfl (OV.assign (v := .int .i64 (w .i64 (x1.2 - x1.1))) rfl) ?_
      exact GL.jump (fun _ _ h => h) (x1.1, (w .i64 (x1.2 - x1.1))) h ⟨rfl, rfl, rfl, rfl, rfl, trivial⟩
  · replace h := And.right h hc4
    refine GC.exit_to (fun _ _ h => h) ?_
    refine GC.region ?_
    refine GL.val trivial rfl (OV.move (v := slv p_data) rfl) ?_
    refine GL.val trivial rfl (OV.move (v := .int .i64 p_m) rfl) ?_
    refine GL.val trivial rfl (OV.move (v := .int .i64 x1.1) rfl) ?_
    refine GL.val trivial rfl (OV.ibin (v := .int .i64 (w .i64 (p_m - x1.1))) rfl rfl rfl) ?_
    refine GL.val trivial rfl (OV.move (v := .int .i64 p_m) rfl) ?_
    refine GL.val trivial rfl (OV.move (v := .int .i64 x1.1) rfl) ?_
    refine GL.val trivial rfl (OV.move (v := p_cmp) rfl) ?_
    refine GL.call h trivial rfl ok_slices_swapRangeCmpFunc_api_Value (vs := [slv p_data, .int .i64 (w .i64 (p_m - x1.1)), .int .i64 p_m, .int .i64 x1.1, p_cmp]) rfl ?_
    rintro _ H8 ⟨rfl, h⟩
    exact GL.ends (fun _ _ hf hs => post_tmp0 rfl hf hs ⟨rfl, h⟩)

def sh_internal_stringslite_HasPrefix (C : Ctx) (p_s : Str) (p_prefix : Str) (K : Bool → Heap → Prop) (H : Heap) : Prop :=
  jn (α := Bool) (fun b1 H11 =>
 K b1 H11)
 (fun J2 => ift (decide (((List.length p_s : Int) : Int) ≥ (List.length p_prefix : Int)))
 (slS p_s 0 (List.length p_prefix : Int) fun t5 =>
 J2 (t5 == p_prefix) H)
 (J2 false H))

theorem ad_internal_stringslite_HasPrefix (C : Ctx) (p_s : Str) (p_prefix : Str) (K : Bool → Heap → Prop) (H : Heap) (h : sh_internal_stringslite_HasPrefix C p_s p_prefix K H) : c_internal_stringslite_HasPrefix C p_s p_prefix K H := by
  refine Spec.enter Tryd.func89 rfl Tryd.ntmps89 rfl ?_
  refine GC.sub [(0, sv p_s), (1, sv p_prefix)] ⟨rfl, rfl, trivial⟩ ?_
  refine GC.seq ?_
  refine GC.region ?_
  refine GL.val trivial rfl (OV.assign (v := .bool false) rfl) ?_
  refine GL.nil ?_
  refine GC.seq ?_
  refine GC.region ?_
  refine GL.val trivial rfl (OV.move (v := sv p_s) rfl) ?_
  refine GL.val trivial rfl (OV.lenStr (s := p_s) rfl rfl) ?_
  refine GL.val trivial rfl (OV.move (v := sv p_prefix) rfl) ?_
  refine GL.val trivial rfl (OV.lenStr (s := p_prefix) rfl rfl) ?_
  refine GL.val trivial rfl (OV.ibin (v := .bool (decide (((List.length p_s : Int) : Int) ≥ (List.length p_prefix : Int)))) rfl rfl rfl) ?_
  refine GL.val trivial rfl (OV.move (v := .bool (decide (((List.length p_s : Int) : Int) ≥ (List.length p_prefix : Int)))) rfl) ?_
  obtain ⟨J2, h, hR3⟩ := h
  refine GL.cut (α := Bool) 7 J2 (fun b1 => [(17, .bool b1)]) ?_ ?_
  · rcases Bool.eq_false_or_eq_true (decide (((List.length p_s : Int) : Int) ≥ (List.length p_prefix : Int))) with hc4 | hc4
    · skip
      replace h := And.left h hc4
      refine GL.val ⟨_, _, rfl, rfl, hc4⟩ rfl (OV.move (v := sv p_s) rfl) ?_
      refine GL.val ⟨_, _, rfl, rfl, hc4⟩ rfl (OV.move (v := sv p_prefix) rfl) ?_
      refine GL.val ⟨_, _, rfl, rfl, hc4⟩ rfl (OV.lenStr (s := p_prefix) rfl rfl) ?_
      obtain ⟨h6, h7, h8, t5, h9, h⟩ := h
      refine GL.val ⟨_, _, rfl, rfl, hc4⟩ rfl (OV.sliceStr (s := p_s) h6 h7 h8 h9 rfl rfl rfl rfl rfl rfl) ?_
      refine GL.val ⟨_, _, rfl, rfl, hc4⟩ rfl (OV.move (v := sv p_prefix) rfl) ?_
      refine GL.val ⟨_, _, rfl, rfl, hc4⟩ rfl (OV.sbin (a := t5) (b := p_prefix) (v := .bool (t5 == p_prefix)) rfl rfl rfl) ?_
      refine GL.val trivial rfl (OV.pickT (b := decide (((List.length p_s : Int) : Int) ≥ (List.length p_prefix : Int))) (v := .bool (t5 == p_prefix)) rfl hc4 rfl) ?_
      exact GL.jump (fun _ _ h => h) (t5 == p_prefix) h ⟨rfl, trivial⟩
    · skip
      replace h := And.right h hc4
      refine GL.skip ⟨_, rfl, .inl ⟨_, rfl, hc4⟩⟩ rfl ?_
      refine GL.skip ⟨_, rfl, .inl ⟨_, rfl, hc4⟩⟩ rfl ?_
      refine GL.skip ⟨_, rfl, .inl ⟨_, rfl, hc4⟩⟩ rfl ?_
      refine GL.skip ⟨_, rfl, .inl ⟨_, rfl, hc4⟩⟩ rfl ?_
      refine GL.skip ⟨_, rfl, .inl ⟨_, rfl, hc4⟩⟩ rfl ?_
      refine GL.skip ⟨_, rfl, .inl ⟨_, rfl, hc4⟩⟩ rfl ?_
      refine GL.val trivial rfl (OV.pickF (b := decide (((List.length p_s : Int) : Int) ≥ (List.length p_prefix : Int))) (v := .bool false) rfl hc4 rfl) ?_
      exact GL.jump (fun _ _ h => h) false h ⟨rfl, trivial⟩
  intro b1 H11 h
  replace h := hR3 b1 H11 h
  refine GL.val trivial rfl (OV.assign (v := .bool b1) rfl) ?_
  refine GL.nil ?_
  exact GC.ret (fun _ _ hf hs => post_tmp1 rfl rfl hf hs ⟨b1, rfl, h⟩)

def sh_strings_asciiSet_contains (C : Ctx) (p_as : Option (Nat × Nat)) (p_c : Int) (K : Bool → Heap → Prop) (H : Heap) : Prop :=
  nck p_as fun p1 =>
 ixr p1 256 p_c <|
 ldB H (p1.1, p1.2 + (p_c : Int).toNat * 1) fun x5 =>
 K x5 H

theorem ad_strings_asciiSet_contains (C : Ctx) (p_as : Option (Nat × Nat)) (p_c : Int) (K : Bool → Heap → Prop) (H : Heap) (h : sh_strings_asciiSet_contains C p_as p_c K H) : c_strings_asciiSet_contains C p_as p_c K H := by
  refine Spec.enter Tryd.func90 rfl Tryd.ntmps90 rfl ?_
  refine GC.sub [(0, pv p_as), (1, .int .u8 p_c)] ⟨rfl, rfl, trivial⟩ ?_
  refine GC.seq ?_
  refine GC.region ?_
  refine GL.val trivial rfl (OV.assign (v := .bool false) rfl) ?_
  refine GL.nil ?_
  refine GC.seq ?_
  refine GC.region ?_
  refine GL.val trivial rfl (OV.move (v := pv p_as) rfl) ?_
  refine GL.val trivial rfl (OV.move (v := .int .u8 p_c) rfl) ?_
  obtain ⟨p1, hp2, h⟩ := h
  refine GL.val trivial rfl (OV.nilCheck (q := p_as) rfl hp2) ?_
  obtain ⟨ha3, hb4, h⟩ := h
  refine GL.val trivial rfl (OV.indexAddrA (p := p1) rfl rfl rfl rfl ha3 hb4) ?_
  obtain ⟨x5, hr6, h⟩ := h
  refine GL.val trivial rfl (OV.load (p := (p1.1, p1.2 + (p_c : Int).toNat * 1)) rfl rfl hr6) ?_
  refine GL.val trivial rfl (OV.assign (v := .bool x5) rfl) ?_
  refine GL.nil ?_
  exact GC.ret (fun _ _ hf hs => post_tmp1 rfl rfl hf hs ⟨x5, rfl, h⟩)

end Sx
end

noncomputable section
set_option linter.unusedVariables false
set_option maxRecDepth 100000
namespace Sx
open Go Go.Proofs
def sh_internal_stringslite_IndexByte (C : Ctx) (p_s : Str) (p_c : Int) (K : Int → Heap → Prop) (H : Heap) : Prop :=
  K (idxB p_s p_c) H

theorem ad_internal_stringslite_IndexByte (C : Ctx) (p_s : Str) (p_c : Int) (K : Int → Heap → Prop) (H : Heap) (h : sh_internal_stringslite_IndexByte C p_s p_c K H) : c_internal_stringslite_IndexByte C p_s p_c K H := by
  refine Spec.enter Tryd.func94 rfl Tryd.ntmps94 rfl ?_
  refine GC.sub [(0, sv p_s), (1, .int .u8 p_c)] ⟨rfl, rfl, trivial⟩ ?_
  refine GC.seq ?_
  refine GC.region ?_
  refine GL.val trivial rfl (OV.assign (v := .int .i64 0) rfl) ?_
  refine GL.nil ?_
  refine GC.seq ?_
  refine GC.region ?_
  refine GL.val trivial rfl (OV.move (v := sv p_s) rfl) ?_
  refine GL.val trivial rfl (OV.move (v := .int .u8 p_c) rfl) ?_
  refine GL.val trivial rfl (OV.ext ext_internal_bytealg_IndexByteString (vs := [sv p_s, .int .u8 p_c]) (v := .int .i64 (idxB p_s p_c)) rfl (fun w => run_idxB _ _ w)) ?_
  refine GL.val trivial rfl (OV.assign (v := .int .i64 (idxB p_s p_c)) rfl) ?_
  refine GL.nil ?_
  exact GC.ret (fun _ _ hf hs => post_tmp1 rfl rfl hf hs ⟨(idxB p_s p_c), rfl, h⟩)

def sh_cmp_isNaN_int (C : Ctx) (p_x : Int) (K : Bool → Heap → Prop) (H : Heap) : Prop :=
  K ((p_x : Int) != p_x) H

theorem ad_cmp_isNaN_int (C : Ctx) (p_x : Int) (K : Bool → Heap → Prop) (H : Heap) (h : sh_cmp_isNaN_int C p_x K H) : c_cmp_isNaN_int C p_x K H := by
  refine Spec.enter Tryd.func100 rfl Tryd.ntmps100 rfl ?_
  refine GC.sub [(0, .int .i64 p_x)] ⟨rfl, trivial⟩ ?_
  refine GC.seq ?_
  refine GC.region ?_
  refine GL.val trivial rfl (OV.assign (v := .bool false) rfl) ?_
  refine GL.nil ?_
  refine GC.seq ?_
  refine GC.region ?_
  refine GL.val trivial rfl (OV.move (v := .int .i64 p_x) rfl) ?_
  refine GL.val trivial rfl (OV.move (v := .int .i64 p_x) rfl) ?_
  refine GL.val trivial rfl (OV.ibin (v := .bool ((p_x : Int) != p_x)) rfl rfl rfl) ?_
  refine GL.val trivial rfl (OV.assign (v := .bool ((p_x : Int) != p_x)) rfl) ?_
  refine GL.nil ?_
  exact GC.ret (fun _ _ hf hs => post_tmp1 rfl rfl hf hs ⟨((p_x : Int) != p_x), rfl, h⟩)

def sh_slices_swapRangeCmpFunc_api_Value (C : Ctx) (p_data : Sl) (p_a : Int) (p_b : Int) (p_n : Int) (p_cmp : Value) (K : Heap → Prop) (H : Heap) : Prop :=
  lp (α := Int) 0 H (fun x1 J2 H3 =>
 ift (decide ((x1 : Int) < p_n))
 (jn (α := Unit) (fun x6 H7 =>
 J2 (w .i64 (x1 + 1)) H7)
 (fun J5 => dr H3 fun Hs9 =>
 ixa p_data (w .i64 (p_b + x1)) fun p11 =>
 ixa p_data (w .i64 (p_a + x1)) fun p16 =>
 (ldL H3 (p11.1, p11.2 + (w .i64 (p_b + x1) : Int).toNat * 1) fun x22 =>
 Heap.le Hs9 H3 ∧
 ldL H3 (p16.1, p16.2 + (w .i64 (p_a + x1) : Int).toNat * 1) fun x25 =>
 Heap.le Hs9 H3 ∧
 ixa p_data (w .i64 (p_a + x1)) fun p27 =>
 st (p27.1, p27.2 + (w .i64 (p_a + x1) : Int).toNat * 1) (slv x22) (fun H33 =>
 Heap.le Hs9 H33 ∧
 ixa p_data (w .i64 (p_b + x1)) fun p34 =>
 st (p34.1, p34.2 + (w .i64 (p_b + x1) : Int).toNat * 1) (slv x25) (fun H39 =>
 J5 () H39) H33) H3) ∧
 (ldL H3 (p16.1, p16.2 + (w .i64 (p_a + x1) : Int).toNat * 1) fun x41 =>
 Heap.le Hs9 H3 ∧
 ldL H3 (p11.1, p11.2 + (w .i64 (p_b + x1) : Int).toNat * 1) fun x44 =>
 Heap.le Hs9 H3 ∧
 ixa p_data (w .i64 (p_a + x1)) fun p46 =>
 st (p46.1, p46.2 + (w .i64 (p_a + x1) : Int).toNat * 1) (slv x44) (fun H52 =>
 Heap.le Hs9 H52 ∧
 ixa p_data (w .i64 (p_b + x1)) fun p53 =>
 st (p53.1, p53.2 + (w .i64 (p_b + x1) : Int).toNat * 1) (slv x41) (fun H58 =>
 J5 () H58) H52) H3)))
 (K H3))

theorem ad_slices_swapRangeCmpFunc_api_Value (C : Ctx) (p_data : Sl) (p_a : Int) (p_b : Int) (p_n : Int) (p_cmp : Value) (K : Heap → Prop) (H : Heap) (h : sh_slices_swapRangeCmpFunc_api_Value C p_data p_a p_b p_n p_cmp K H) : c_slices_swapRangeCmpFunc_api_Value C p_data p_a p_b p_n p_cmp K H := by
  refine Spec.enter Tryd.func101 rfl Tryd.ntmps101 rfl ?_
  refine GC.sub [(0, slv p_data), (1, .int .i64 p_a), (2, .int .i64 p_b), (3, .int .i64 p_n), (4, p_cmp)] ⟨rfl, rfl, rfl, rfl, rfl, trivial⟩ ?_
  refine GC.seq ?_
  refine GC.region ?_
  refine GL.val trivial rfl (OV.assign (v := .int .i64 0) rfl) ?_
  refine GL.nil ?_
  refine GC.block ?_
  refine GC.loop (α := Int) h (fun x1 => [(10, .int .i64 x1), (0, slv p_data), (1, .int .i64 p_a), (2, .int .i64 p_b), (3, .int .i64 p_n)]) ⟨rfl, rfl, rfl, rfl, rfl, trivial⟩ ?_
  intro x1 H3 J2 h
  refine GC.seq ?_
  refine GC.seq ?_
  refine GC.region ?_
  refine GL.val trivial rfl (OV.move (v := .int .i64 x1) rfl) ?_
  refine GL.val trivial rfl (OV.move (v := .int .i64 p_n) rfl) ?_
  refine GL.val trivial rfl (OV.ibin (v := .bool (decide ((x1 : Int) < p_n))) rfl rfl rfl) ?_
  refine GL.nil ?_
  refine GC.cond (b := decide ((x1 : Int) < p_n)) rfl (fun hc4 => ?_) (fun hc4 => ?_)
  · replace h := And.left h hc4
    refine GC.skip ?_
    refine GC.seq ?_
    refine GC.block ?_
    obtain ⟨J5, h, hR8⟩ := h
    refine GC.meet (α := Unit) J5 (fun _ => [(0, slv p_data), (1, .int .i64 p_a), (2, .int .i64 p_b), (3, .int .i64 p_n), (10, .int .i64 x1)]) ?_ ?_
    · skip
      obtain ⟨Hs9, hle10, h⟩ := h
      refine GC.tail (Hs := Hs9) 23 (by kernel_rfl) hle10 (by kernel_rfl) ?_
      refine GT.take 0 rfl (by kernel_rfl) (by kernel_rfl) (by kernel_rfl) rfl (fun _ _ _ h => False.elim h) trivial rfl (OV.move (v := slv p_data) rfl) ?_
      refine GT.take 1 rfl (by kernel_rfl) (by kernel_rfl) (by kernel_rfl) rfl (fun _ _ _ h => False.elim h) trivial rfl (OV.move (v := .int .i64 p_a) rfl) ?_
      refine GT.take 2 rfl (by kernel_rfl) (by kernel_rfl) (by kernel_rfl) rfl (fun _ _ _ h => False.elim h) trivial rfl (OV.move (v := .int .i64 x1) rfl) ?_
      refine GT.take 3 rfl (by kernel_rfl) (by kernel_rfl) (by kernel_rfl) rfl (fun _ _ _ h => False.elim h) trivial rfl (OV.ibin (v := .int .i64 (w .i64 (p_a + x1))) rfl rfl rfl) ?_
      refine GT.take 4 rfl (by kernel_rfl) (by kernel_rfl) (by kernel_rfl) rfl (fun _ _ _ h => False.elim h) trivial rfl (OV.move (v := slv p_data) rfl) ?_
      refine GT.take 5 rfl (by kernel_rfl) (by kernel_rfl) (by kernel_rfl) rfl (fun _ _ _ h => False.elim h) trivial rfl (OV.move (v := .int .i64 p_b) rfl) ?_
      refine GT.take 6 rfl (by kernel_rfl) (by kernel_rfl) (by kernel_rfl) rfl (fun _ _ _ h => False.elim h) trivial rfl (OV.move (v := .int .i64 x1) rfl) ?_
      refine GT.take 7 rfl (by kernel_rfl) (by kernel_rfl) (by kernel_rfl) rfl (fun _ _ _ h => False.elim h) trivial rfl (OV.ibin (v := .int .i64 (w .i64 (p_b + x1))) rfl rfl rfl) ?_
      refine GT.take 8 rfl (by kernel_rfl) (by kernel_rfl) (by kernel_rfl) rfl (fun _ _ _ h => False.elim h) trivial rfl (OV.move (v := slv p_data) rfl) ?_
      refine GT.take 9 rfl (by kernel_rfl) (by kernel_rfl) (by kernel_rfl) rfl (fun _ _ _ h => False.elim h) trivial rfl (OV.move (v := .int .i64 p_b) rfl) ?_
      refine GT.take 10 rfl (by kernel_rfl) (by kernel_rfl) (by kernel_rfl) rfl (fun _ _ _ h => False.elim h) trivial rfl (OV.move (v := .int .i64 x1) rfl) ?_
      refine GT.take 11 rfl (by kernel_rfl) (by kernel_rfl) (by kernel_rfl) rfl (fun _ _ _ h => False.elim h) trivial rfl (OV.ibin (v := .int .i64 (w .i64 (p_b + x1))) rfl rfl rfl) ?_
      obtain ⟨p11, ha12, hb13, hc14, hd15, h⟩ := h
      refine GT.take 12 rfl (by kernel_rfl) (by kernel_rfl) (by kernel_rfl) rfl (fun _ _ _ h => False.elim h) trivial rfl (OV.indexAddr (s := p_data) rfl rfl rfl rfl ha12 hb13 hc14 hd15) ?_
      refine GT.take 14 rfl (by kernel_rfl) (by kernel_rfl) (by kernel_rfl) rfl (fun _ _ _ h => False.elim h) trivial rfl (OV.move (v := slv p_data) rfl) ?_
      refine GT.take 15 rfl (by kernel_rfl) (by kernel_rfl) (by kernel_rfl) rfl (fun _ _ _ h => False.elim h) trivial rfl (OV.move (v := .int .i64 p_a) rfl) ?_
      refine GT.take 16 rfl (by kernel_rfl) (by kernel_rfl) (by kernel_rfl) rfl (fun _ _ _ h => False.elim h) trivial rfl (OV.move (v := .int .i64 x1) rfl) ?_
      refine GT.take 17 rfl (by kernel_rfl) (by kernel_rfl) (by kernel_rfl) rfl (fun _ _ _ h => False.elim h) trivial rfl (OV.ibin (v := .int .i64 (w .i64 (p_a + x1))) rfl rfl rfl) ?_
      obtain ⟨p16, ha17, hb18, hc19, hd20, h⟩ := h
      refine GT.take 18 rfl (by kernel_rfl) (by kernel_rfl) (by kernel_rfl) rfl (fun _ _ _ h => False.elim h) trivial rfl (OV.indexAddr (s := p_data) rfl rfl rfl rfl ha17 hb18 hc19 hd20) ?_
      refine GT.effs [13, 19] (by kernel_rfl) (by simp) (List.forall_mem_cons.2 ⟨⟨_, rfl, rfl, ?_⟩, List.forall_mem_cons.2 ⟨⟨_, rfl, rfl, ?_⟩, fun _ h => by cases h⟩⟩)
      · replace h := h.1
        obtain ⟨x22, hr23, h⟩ := h
        refine GL.val trivial rfl (OV.load (p := (p11.1, p11.2 + (w .i64 (p_b + x1) : Int).toNat * 1)) rfl rfl hr23) ?_
        obtain ⟨hle21, h⟩ := h
        refine GT.back hle21 ?_
        refine GT.eff 19 rfl (by kernel_rfl) rfl ?_
        obtain ⟨x25, hr26, h⟩ := h
        refine GL.val trivial rfl (OV.load (p := (p16.1, p16.2 + (w .i64 (p_a + x1) : Int).toNat * 1)) rfl rfl hr26) ?_
        obtain ⟨hle24, h⟩ := h
        refine GT.back hle24 ?_
        obtain ⟨p27, ha28, hb29, hc30, hd31, h⟩ := h
        refine GT.take 20 rfl (by kernel_rfl) (by kernel_rfl) (by kernel_rfl) rfl (fun _ _ _ h => False.elim h) trivial rfl (OV.indexAddr (s := p_data) rfl rfl rfl rfl ha28 hb29 hc30 hd31) ?_
        refine GT.eff 21 rfl (by kernel_rfl) rfl ?_
        refine GL.store (p := (p27.1, p27.2 + (w .i64 (p_a + x1) : Int).toNat * 1)) (v := slv x22) h trivial rfl rfl rfl rfl ?_
        intro H33 h
        obtain ⟨hle32, h⟩ := h
        refine GT.back hle32 ?_
        obtain ⟨p34, ha35, hb36, hc37, hd38, h⟩ := h
        refine GT.take 22 rfl (by kernel_rfl) (by kernel_rfl) (by kernel_rfl) rfl (fun _ _ _ h => False.elim h) trivial rfl (OV.indexAddr (s := p_data) rfl rfl rfl rfl ha35 hb36 hc37 hd38) ?_
        refine GT.done (by kernel_rfl) ?_
        show GL _ _ _ _ _ [_] _ _
        refine GL.store (p := (p34.1, p34.2 + (w .i64 (p_b + x1) : Int).toNat * 1)) (v := slv x25) h trivial rfl rfl rfl rfl ?_
        intro H39 h
        exact GL.jump (fun _ _ h => h) () h ⟨rfl, rfl, rfl, rfl, rfl, trivial⟩
      · replace h := h.2
        obtain ⟨x41, hr42, h⟩ := h
        refine GL.val trivial rfl (OV.load (p := (p16.1, p16.2 + (w .i64 (p_a + x1) : Int).toNat * 1)) rfl rfl hr42) ?_
        obtain ⟨hle40, h⟩ := h
        refine GT.back hle40 ?_
        refine GT.eff 13 rfl (by kernel_rfl) rfl ?_
        obtain ⟨x44, hr45, h⟩ := h
        refine GL.val trivial rfl (OV.load (p := (p11.1, p11.2 + (w .i64 (p_b + x1) : Int).toNat * 1)) rfl rfl hr45) ?_
        obtain ⟨hle43, h⟩ := h
        refine GT.back hle43 ?_
        obtain ⟨p46, ha47, hb48, hc49, hd50, h⟩ := h
        refine GT.take 20 rfl (by kernel_rfl) (by kernel_rfl) (by kernel_rfl) rfl (fun _ _ _ h => False.elim h) trivial rfl (OV.indexAddr (s := p_data) rfl rfl rfl rfl ha47 hb48 hc49 hd50) ?_
        refine GT.eff 21 rfl (by kernel_rfl) rfl ?_
        refine GL.store (p := (p46.1, p46.2 + (w .i64 (p_a + x1) : Int).toNat * 1)) (v := slv x44) h trivial rfl rfl rfl rfl ?_
        intro H52 h
        obtain ⟨hle51, h⟩ := h
        refine GT.back hle51 ?_
        obtain ⟨p53, ha54, hb55, hc56, hd57, h⟩ := h
        refine GT.take 22 rfl (by kernel_rfl) (by kernel_rfl) (by kernel_rfl) rfl (fun _ _ _ h => False.elim h) trivial rfl (OV.indexAddr (s := p_data) rfl rfl rfl rfl ha54 hb55 hc56 hd57) ?_
        refine GT.done (by kernel_rfl) ?_
        show GL _ _ _ _ _ [_] _ _
        refine GL.store (p := (p53.1, p53.2 + (w .i64 (p_b + x1) : Int).toNat * 1)) (v := slv x41) h trivial rfl rfl rfl rfl ?_
        intro H58 h
        exact GL.jump (fun _ _ h => h) () h ⟨rfl, rfl, rfl, rfl, rfl, trivial⟩
    · intro x6 H7 h
      replace h := hR8 x6 H7 h
      refine GL.nil_to (fun _ _ h => h) ?_
      refine GC.region ?_
      refine GL.val trivial rfl (OV.move (v := .int .i64 x1) rfl) ?_
      refine GL.val trivial rfl (OV.ibin (v := .int .i64 (w .i64 (x1 + 1))) rfl rfl rfl) ?_
      refine GL.val trivial rfl (OV.assign (v := .int .i64 (w .i64 (x1 + 1))) rfl) ?_
      exact GL.jump (fun _ _ h => h) (w .i64 (x1 + 1)) h ⟨rfl, rfl, rfl, rfl, rfl, trivial⟩
  · replace h := And.right h hc4
    exact GC.exit_ends (fun _ _ hf hs => post_tmp0 rfl hf hs ⟨rfl, h⟩)
end Sx
end

noncomputable section
set_option linter.unusedVariables false
set_option linter.unusedSimpArgs false
set_option maxRecDepth 10000
namespace Sx
open Go Go.Proofs
section
variable {C : Ctx} {H : Heap}
theorem copyCheck_ok {b : Nat} {p : Option (Nat × Nat)} {s : Sl} {K : Heap → Prop} (hb : H b = some (true, .trow 49 0 [pv p, slv s])) (hp : p = none ∨ p = some (b, 0)) (k : K (H.put b (.trow 49 0 [pv (some (b, 0)), slv s]))) : c_strings_Builder_copyCheck C (some (b, 0)) K H := by
  apply ad_strings_Builder_copyCheck
  unfold sh_strings_Builder_copyCheck
  refine ⟨_, rfl, p, by simp [rd, hb, GO.cells?], ?_⟩
  rcases hp with rfl | rfl
  · exact ift_pos rfl ⟨(b, 0), rfl, ⟨true, _, 0, _, hb, by simp⟩, ⟨true, 0, _, hb, rfl, rfl⟩, _, rfl, _, 0, _, hb, Nat.le_refl _, by simp, k⟩
  · refine ift_neg rfl ⟨_, rfl, some (b, 0), by simp [rd, hb, GO.cells?], (b, 0), rfl, rfl, ift_neg rfl ?_⟩
    have : H.put b (.trow 49 0 [pv (some (b, 0)), slv s]) = H := Heap.put_id hb
    rw [this] at k; exact k

theorem rd_buf {H : Heap} {b : Nat} {p : Option (Nat × Nat)} {s : Sl} {t : TypeId} (hb : H b = some (true, .trow t 0 [pv p, slv s])) : rd H (b, 0 + 1) = some (slv s) := by simp [rd, hb, GO.cells?]

theorem WriteByte_ok {b : Nat} {bs : Str} {c : UInt8} {K : Value → Heap → Prop} (h : IsB 49 5 H b bs) (hl : bs.length + 1 ≤ 140737488355328) (k : K .nilIface (H.put b (.bld 49 5 (bs ++ [c])))) : c_strings_Builder_WriteByte C (some (b, 0)) (c.toNat : Int) K H := by
  apply c_strings_Builder_WriteByte.gh
  refine h.open_ fun p s H' ho => ?_
  refine ad_strings_Builder_WriteByte _ _ _ _ _ ?_
  unfold sh_strings_Builder_WriteByte
  refine copyCheck_ok ho.row ho.self ?_
  have ho2 := ho.setP (p2 := some (b, 0)) (.inr rfl)
  refine ⟨_, rfl, s, rd_buf ho2.row, ?_⟩
  refine ho2.apd (by obtain ⟨g, hg⟩ := h.some; exact ⟨_, hg⟩) (ys := [c]) (by simpa using hl) fun r H3 h3 hr => ?_
  exact ⟨_, rfl, _, 0, _, hr, Nat.zero_le _, by simp, _, Gh.hideB h3, k⟩

theorem WriteString_ok {b : Nat} {bs c : Str} {K : Int → Value → Heap → Prop} (h : IsB 49 5 H b bs) (hl : bs.length + c.length ≤ 140737488355328) (k : K (c.length : Int) .nilIface (H.put b (.bld 49 5 (bs ++ c)))) : c_strings_Builder_WriteString C (some (b, 0)) c K H := by
  apply c_strings_Builder_WriteString.gh
  refine h.open_ fun p s H' ho => ?_
  refine ad_strings_Builder_WriteString _ _ _ _ _ ?_
  unfold sh_strings_Builder_WriteString
  refine copyCheck_ok ho.row ho.self ?_
  have ho2 := ho.setP (p2 := some (b, 0)) (.inr rfl)
  refine ⟨_, rfl, s, rd_buf ho2.row, ?_⟩
  refine ho2.apd (by obtain ⟨g, hg⟩ := h.some; exact ⟨_, hg⟩) (ys := c) hl fun r H3 h3 hr => ?_
  exact ⟨_, rfl, _, 0, _, hr, Nat.zero_le _, by simp, _, Gh.hideB h3, k⟩

theorem String_ok {b : Nat} {bs : Str} {K : Str → Heap → Prop} (h : IsB 49 5 H b bs) (hl : bs.length ≤ 9223372036854775807) (k : K bs (H.put b (.bld 49 5 bs))) : c_strings_Builder_String C (some (b, 0)) K H := by
  apply c_strings_Builder_String.gh
  refine h.open_ fun p s H' ho => ?_
  refine ad_strings_Builder_String _ _ _ _ ?_
  unfold sh_strings_Builder_String
  obtain ⟨e1, e2, e3⟩ := ho.slen
  have hrd : rd (H'.hide s) (b, 0 + 1) = some (slv s) := by
    have : (H'.hide s) b = H' b := by
      unfold Heap.hide
      split
      · rename_i q hq; rw [if_neg (fun e => ho.ne q hq e.symm)]
      · rfl
    simp [rd, this, ho.row, GO.cells?]
  refine ⟨H'.hide s, Heap.hide_le _ _, _, rfl, s, hrd, ⟨e3, e2⟩, _, rfl, s, hrd, ?_⟩
  rcases ho.buf with ⟨rfl, rfl⟩ | ⟨g, kk, row, hg, rfl, hgr, hk, hr0, hrl, hcs⟩
  · exact .inl ⟨rfl, Heap.hide_le _ _, _, Gh.hideB ho, k⟩
  · by_cases h0 : bs = []
    · subst h0
      exact .inl ⟨rfl, Heap.hide_le _ _, _, Gh.hideB ho, k⟩
    · refine .inr ⟨g, kk, row, bs, rfl, hgr, rfl, h0, hl, hcs, fun x v hx => ?_, _, Gh.hideB (b := b) (T := 49) (e := 5) (bs := bs) (p := p) (s := ⟨some (g, 0), bs.length, row.length, none⟩) ?_, k⟩
      · have hxg : x ≠ g := fun e => by subst e; simp [Heap.hide] at hx
        rw [Heap.put_ne _ _ _ hxg]; exact (Heap.hide_le _ _) _ _ hx
      · refine ⟨ho.self, by rw [Heap.put_ne _ _ _ (Ne.symm hg)]; exact ho.row, .inr ⟨g, max kk bs.length, row, hg, rfl, Heap.put_same .., by omega, hr0, hrl, hcs⟩, ho.gnot, fun x v hx hv => ?_⟩
        have hxg : x ≠ g := fun e => by subst e; have := ho.gnot (x, 0) rfl; dsimp only at this; rw [this] at hv; cases hv
        rw [Heap.put_ne _ _ _ hxg]; exact ho.but x v hx hv

end
def xB : BIds := ⟨49, 5, 25, 26, 31⟩
theorem xBld {C : Ctx} : BldOk Tryd.prog C xB where
  wb := fun b bs c H Φ h hl k => Spec.mono (WriteByte_ok (K := fun r H' => Φ r H') h hl k) fun v H2 ⟨r, hv, hk⟩ => by rw [hv]; exact hk
  ws := fun b bs s H Φ h hl k => Spec.mono (WriteString_ok (K := fun r r2 H' => Φ (.tuple #[.int .i64 r, r2]) H') h hl k) fun v H2 ⟨r, r2, hv, hk⟩ => by rw [hv]; exact hk
  st := fun b bs H Φ h hl k => Spec.mono (String_ok (K := fun r H' => Φ (sv r) H') h (by omega) k) fun v H2 ⟨r, hv, hk⟩ => by rw [hv]; exact hk
  okb := ok_strings_Builder_WriteByte
  oks := ok_strings_Builder_WriteString
  okt := ok_strings_Builder_String
end Sx
end

