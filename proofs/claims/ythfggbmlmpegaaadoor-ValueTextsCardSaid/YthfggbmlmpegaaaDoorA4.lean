/-
  Texts of this family, one behind the other: Sh3, Sh, FmtI, ValQ, ValU, ValP1, ValP2, ValP3, ValP4, ValP5, ValR, ValW, ValX.
-/
import Derived.Test.YthfggbmlmpegaaaDoorA3
import Derived.Shelf.Strconv.Itoa4
noncomputable section
set_option linter.unusedVariables false
set_option maxRecDepth 100000
namespace Sx
open Go Go.Proofs
def sh_slices_IndexFunc_api_Value_api_Value (C : Ctx) (p_s : Sl) (p_f : Value) (K : Int → Heap → Prop) (H : Heap) : Prop :=
  lp (α := Int) 0 H (fun x1 J2 H3 =>
 ift (decide ((x1 : Int) < (Sl.len p_s : Int)))
 (ixa p_s x1 fun p5 =>
 ldT H3 T_api_Value.c (p5.1, p5.2 + (x1 : Int).toNat * 4) fun x10 =>
 callU Tryd.prog C p_f [.agg (T_api_Value.c x10).toArray] H3 (fun v H13 => ∃ (r12 : Bool), v = .bool r12 ∧
 ift r12
 (K x1 H13)
 (J2 (w .i64 (x1 + 1)) H13)))
 (K (-1) H3))

theorem ad_slices_IndexFunc_api_Value_api_Value (C : Ctx) (p_s : Sl) (p_f : Value) (K : Int → Heap → Prop) (H : Heap) (h : sh_slices_IndexFunc_api_Value_api_Value C p_s p_f K H) : c_slices_IndexFunc_api_Value_api_Value C p_s p_f K H := by
  refine Spec.enter Tryd.func61 rfl Tryd.ntmps61 rfl ?_
  refine GC.sub [(0, slv p_s), (1, p_f)] ⟨rfl, rfl, trivial⟩ ?_
  refine GC.seq ?_
  refine GC.region ?_
  refine GL.val trivial rfl (OV.assign (v := .int .i64 0) rfl) ?_
  refine GL.nil ?_
  refine GC.seq ?_
  refine GC.seq ?_
  refine GC.region ?_
  refine GL.val trivial rfl (OV.move (v := slv p_s) rfl) ?_
  refine GL.val trivial rfl (OV.lenSl (s := p_s) rfl rfl) ?_
  refine GL.val trivial rfl (OV.move (v := .int .i64 0) rfl) ?_
  refine GL.nil ?_
  refine GC.block ?_
  refine GC.loop (α := Int) h (fun x1 => [(8, .int .i64 x1), (0, slv p_s), (1, p_f), (7, .int .i64 (Sl.len p_s : Int))]) ⟨rfl, rfl, rfl, rfl, trivial⟩ ?_
  intro x1 H3 J2 h
  refine GC.seq ?_
  refine GC.region ?_
  refine GL.val trivial rfl (OV.ibin (v := .bool (decide ((x1 : Int) < (Sl.len p_s : Int)))) rfl rfl rfl) ?_
  refine GL.nil ?_
  refine GC.seq ?_
  refine GC.cond (b := decide ((x1 : Int) < (Sl.len p_s : Int))) rfl (fun hc4 => ?_) (fun hc4 => ?_)
  · replace h := And.left h hc4
    refine GC.skip ?_
    refine GC.seq ?_
    refine GC.block ?_
    refine GC.seq ?_
    refine GC.region ?_
    refine GL.val trivial rfl (OV.move (v := .int .i64 x1) rfl) ?_
    refine GL.val trivial rfl (OV.assign (v := .int .i64 x1) rfl) ?_
    refine GL.nil ?_
    refine GC.seq ?_
    refine GC.region ?_
    refine GL.val trivial rfl (OV.move (v := p_f) rfl) ?_
    refine GL.val trivial rfl (OV.move (v := slv p_s) rfl) ?_
    refine GL.val trivial rfl (OV.move (v := .int .i64 x1) rfl) ?_
    obtain ⟨p5, ha6, hb7, hc8, hd9, h⟩ := h
    refine GL.val trivial rfl (OV.indexAddr (s := p_s) rfl rfl rfl rfl ha6 hb7 hc8 hd9) ?_
    obtain ⟨x10, hr11, h⟩ := h
    refine GL.val trivial rfl (OV.loadT (p := (p5.1, p5.2 + (x1 : Int).toNat * 4)) (cs := T_api_Value.c x10) rfl rfl rfl hr11) ?_
    refine GL.callU (xv := p_f) (vs := [.agg (T_api_Value.c x10).toArray]) h trivial rfl rfl rfl ?_
    rintro _ H13 ⟨r12, rfl, h⟩
    refine GL.nil ?_
    refine GC.cond (b := r12) rfl (fun hc14 => ?_) (fun hc14 => ?_)
    · replace h := And.left h hc14
      refine GC.seq ?_
      refine GC.region ?_
      refine GL.val trivial rfl (OV.move (v := .int .i64 x1) rfl) ?_
      refine GL.val trivial rfl (OV.assign (v := .int .i64 x1) rfl) ?_
      refine GL.nil ?_
      exact GC.ret (fun _ _ hf hs => post_tmp1 rfl rfl hf hs ⟨x1, rfl, h⟩)
    · replace h := And.right h hc14
      refine GC.skip_to (fun _ _ h => h) ?_
      refine GC.region ?_
      refine GL.val trivial rfl (OV.ibin (v := .int .i64 (w .i64 (x1 + 1))) rfl rfl rfl) ?_
      refine GL.val trivial rfl (OV.move (v := .int .i64 (w .i64 (x1 + 1))) rfl) ?_
      exact GL.jump (fun _ _ h => h) (w .i64 (x1 + 1)) h ⟨rfl, rfl, rfl, rfl, trivial⟩
  · replace h := And.right h hc4
    refine GC.exit_to (fun _ _ h => h) ?_
    refine GC.seq ?_
    refine GC.region ?_
    refine GL.val trivial rfl (OV.assign (v := .int .i64 (-1)) rfl) ?_
    refine GL.nil ?_
    exact GC.ret (fun _ _ hf hs => post_tmp1 rfl rfl hf hs ⟨(-1), rfl, h⟩)

def sh_cmp_Compare_uint8 (C : Ctx) (p_x : Int) (p_y : Int) (K : Int → Heap → Prop) (H : Heap) : Prop :=
  c_cmp_isNaN_uint8 C p_x (fun r1 H2 =>
 c_cmp_isNaN_uint8 C p_y (fun r3 H4 =>
 ift r1
 (ift r3
 (K 0 H4)
 (K (-1) H4))
 (ift r3
 (K 1 H4)
 (ift (decide ((p_x : Int) < p_y))
 (K (-1) H4)
 (ift (decide ((p_x : Int) > p_y))
 (K 1 H4)
 (K 0 H4))))) H2) H

theorem ad_cmp_Compare_uint8 (C : Ctx) (p_x : Int) (p_y : Int) (K : Int → Heap → Prop) (H : Heap) (h : sh_cmp_Compare_uint8 C p_x p_y K H) : c_cmp_Compare_uint8 C p_x p_y K H := by
  refine Spec.enter Tryd.func62 rfl Tryd.ntmps62 rfl ?_
  refine GC.sub [(0, .int .u8 p_x), (1, .int .u8 p_y)] ⟨rfl, rfl, trivial⟩ ?_
  refine GC.seq ?_
  refine GC.region ?_
  refine GL.val trivial rfl (OV.assign (v := .int .i64 0) rfl) ?_
  refine GL.nil ?_
  refine GC.seq ?_
  refine GC.region ?_
  refine GL.val trivial rfl (OV.move (v := .int .u8 p_x) rfl) ?_
  refine GL.call h trivial rfl ok_cmp_isNaN_uint8 (vs := [.int .u8 p_x]) rfl ?_
  rintro _ H2 ⟨r1, rfl, h⟩
  refine GL.val trivial rfl (OV.assign (v := .bool r1) rfl) ?_
  refine GL.nil ?_
  refine GC.seq ?_
  refine GC.region ?_
  refine GL.val trivial rfl (OV.move (v := .int .u8 p_y) rfl) ?_
  refine GL.call h trivial rfl ok_cmp_isNaN_uint8 (vs := [.int .u8 p_y]) rfl ?_
  rintro _ H4 ⟨r3, rfl, h⟩
  refine GL.val trivial rfl (OV.assign (v := .bool r3) rfl) ?_
  refine GL.nil ?_
  refine GC.seq ?_
  refine GC.seq ?_
  refine GC.region ?_
  refine GL.val trivial rfl (OV.move (v := .bool r1) rfl) ?_
  refine GL.nil ?_
  refine GC.cond (b := r1) rfl (fun hc5 => ?_) (fun hc5 => ?_)
  · replace h := And.left h hc5
    refine GC.seq ?_
    refine GC.seq ?_
    refine GC.region ?_
    refine GL.val trivial rfl (OV.move (v := .bool r3) rfl) ?_
    refine GL.nil ?_
    refine GC.cond (b := r3) rfl (fun hc6 => ?_) (fun hc6 => ?_)
    · replace h := And.left h hc6
      refine GC.seq ?_
      refine GC.region ?_
      refine GL.val trivial rfl (OV.assign (v := .int .i64 0) rfl) ?_
      refine GL.nil ?_
      exact GC.ret (fun _ _ hf hs => post_tmp1 rfl rfl hf hs ⟨0, rfl, h⟩)
    · replace h := And.right h hc6
      refine GC.skip ?_
      refine GC.seq ?_
      refine GC.region ?_
      refine GL.val trivial rfl (OV.assign (v := .int .i64 (-1)) rfl) ?_
      refine GL.nil ?_
      exact GC.ret (fun _ _ hf hs => post_tmp1 rfl rfl hf hs ⟨(-1), rfl, h⟩)
  · replace h := And.right h hc5
    refine GC.skip ?_
    refine GC.seq ?_
    refine GC.seq ?_
    refine GC.region ?_
    refine GL.val trivial rfl (OV.move (v := .bool r3) rfl) ?_
    refine GL.nil ?_
    refine GC.cond (b := r3) rfl (fun hc7 => ?_) (fun hc7 => ?_)
    · replace h := And.left h hc7
      refine GC.seq ?_
      refine GC.region ?_
      refine GL.val trivial rfl (OV.assign (v := .int .i64 1) rfl) ?_
      refine GL.nil ?_
      exact GC.ret (fun _ _ hf hs => post_tmp1 rfl rfl hf hs ⟨1, rfl, h⟩)
    · replace h := And.right h hc7
      refine GC.skip ?_
      refine GC.seq ?_
      refine GC.seq ?_
      refine GC.region ?_
      refine GL.val trivial rfl (OV.move (v := .int .u8 p_x) rfl) ?_
      refine GL.val trivial rfl (OV.move (v := .int .u8 p_y) rfl) ?_
      refine GL.val trivial rfl (OV.ibin (v := .bool (decide ((p_x : Int) < p_y))) rfl rfl rfl) ?_
      refine GL.nil ?_
      refine GC.cond (b := decide ((p_x : Int) < p_y)) rfl (fun hc8 => ?_) (fun hc8 => ?_)
      · replace h := And.left h hc8
        refine GC.seq ?_
        refine GC.region ?_
        refine GL.val trivial rfl (OV.assign (v := .int .i64 (-1)) rfl) ?_
        refine GL.nil ?_
        exact GC.ret (fun _ _ hf hs => post_tmp1 rfl rfl hf hs ⟨(-1), rfl, h⟩)
      · replace h := And.right h hc8
        refine GC.skip ?_
        refine GC.seq ?_
        refine GC.seq ?_
        refine GC.region ?_
        refine GL.val trivial rfl (OV.move (v := .int .u8 p_x) rfl) ?_
        refine GL.val trivial rfl (OV.move (v := .int .u8 p_y) rfl) ?_
        refine GL.val trivial rfl (OV.ibin (v := .bool (decide ((p_x : Int) > p_y))) rfl rfl rfl) ?_
        refine GL.nil ?_
        refine GC.cond (b := decide ((p_x : Int) > p_y)) rfl (fun hc9 => ?_) (fun hc9 => ?_)
        · replace h := And.left h hc9
          refine GC.seq ?_
          refine GC.region ?_
          refine GL.val trivial rfl (OV.assign (v := .int .i64 1) rfl) ?_
          refine GL.nil ?_
          exact GC.ret (fun _ _ hf hs => post_tmp1 rfl rfl hf hs ⟨1, rfl, h⟩)
        · replace h := And.right h hc9
          refine GC.skip ?_
          refine GC.seq ?_
          refine GC.region ?_
          refine GL.val trivial rfl (OV.assign (v := .int .i64 0) rfl) ?_
          refine GL.nil ?_
          exact GC.ret (fun _ _ hf hs => post_tmp1 rfl rfl hf hs ⟨0, rfl, h⟩)

def sh_value_bigs (C : Ctx) (p_a : Str) (p_b : Str) (K : Int → Heap → Prop) (H : Heap) : Prop :=
  c_strings_HasPrefix C p_a [45] (fun r1 H2 =>
 c_strings_HasPrefix C p_b [45] (fun r3 H4 =>
 ift (r1 && r3)
 (dr H4 fun Hs7 =>
 slS p_b 1 (List.length p_b : Int) fun t9 =>
 slS p_a 1 (List.length p_a : Int) fun t15 =>
 c_value_bigs C t9 t15 (fun r22 H23 =>
 Heap.le Hs7 H23 ∧
 K r22 H23) H4)
 (ift r1
 (K (-1) H4)
 (ift r3
 (K 1 H4)
 (c_cmp_Compare_int C (List.length p_a : Int) (List.length p_b : Int) (fun r26 H27 =>
 c_cmp_Compare_string C p_a p_b (fun r28 H29 =>
 nw ([.int .i64 r26, .int .i64 r28]) (fun b30 H31 =>
 c_cmp_Or_int C (Sl.of (some (b30, 0)) 2 2) (fun r32 H33 =>
 K r32 H33) H31) H29) H27) H4)))) H2) H

theorem ad_value_bigs (C : Ctx) (p_a : Str) (p_b : Str) (K : Int → Heap → Prop) (H : Heap) (h : sh_value_bigs C p_a p_b K H) : c_value_bigs C p_a p_b K H := by
  refine Spec.enter Tryd.func63 rfl Tryd.ntmps63 rfl ?_
  refine GC.sub [(0, sv p_a), (1, sv p_b)] ⟨rfl, rfl, trivial⟩ ?_
  refine GC.seq ?_
  refine GC.region ?_
  refine GL.val trivial rfl (OV.assign (v := .int .i64 0) rfl) ?_
  refine GL.nil ?_
  refine GC.seq ?_
  refine GC.region ?_
  refine GL.val trivial rfl (OV.move (v := sv p_a) rfl) ?_
  refine GL.call h trivial rfl ok_strings_HasPrefix (vs := [sv p_a, sv [45]]) rfl ?_
  rintro _ H2 ⟨r1, rfl, h⟩
  refine GL.val trivial rfl (OV.move (v := sv p_b) rfl) ?_
  refine GL.call h trivial rfl ok_strings_HasPrefix (vs := [sv p_b, sv [45]]) rfl ?_
  rintro _ H4 ⟨r3, rfl, h⟩
  refine GL.val trivial rfl (OV.assign (v := .bool r1) rfl) ?_
  refine GL.val trivial rfl (OV.assign (v := .bool r3) rfl) ?_
  refine GL.nil ?_
  refine GC.seq ?_
  refine GC.block ?_
  refine GC.seq ?_
  refine GC.region ?_
  refine GL.val trivial rfl (OV.move (v := .bool r1) rfl) ?_
  refine GL.val trivial rfl (OV.move (v := .bool r1) rfl) ?_
  refine GL.cut0 2 [(15, .bool (r1 && r3)), (0, sv p_a), (1, sv p_b), (5, .bool r1), (6, .bool r3)] ?_ ?_
  · rcases Bool.eq_false_or_eq_true r1 with hc5 | hc5
    · skip
      refine GL.val ⟨_, _, rfl, rfl, hc5⟩ rfl (OV.move (v := .bool r3) rfl) ?_
      refine GL.val trivial rfl (OV.pickT (b := r1) (v := .bool r3) rfl hc5 rfl) ?_
      exact GL.jump0 (fun _ _ h => h) () rfl ⟨(by rw [hc5]; rfl), rfl, rfl, rfl, rfl, trivial⟩
    · skip
      refine GL.skip ⟨_, rfl, .inl ⟨_, rfl, hc5⟩⟩ rfl ?_
      refine GL.val trivial rfl (OV.pickF (b := r1) (v := .bool false) rfl hc5 rfl) ?_
      exact GL.jump0 (fun _ _ h => h) () rfl ⟨(by rw [hc5]; rfl), rfl, rfl, rfl, rfl, trivial⟩
  refine GL.val trivial rfl (OV.assign (v := .bool (r1 && r3)) rfl) ?_
  refine GL.nil ?_
  refine GC.cond (b := r1 && r3) rfl (fun hc6 => ?_) (fun hc6 => ?_)
  · replace h := And.left h hc6
    refine GC.seq ?_
    obtain ⟨Hs7, hle8, h⟩ := h
    refine GC.any (Hs := Hs7) (by kernel_rfl) hle8 ?_
    refine GA.take 0 rfl (by kernel_rfl) (by kernel_rfl) (by kernel_rfl) (fun _ _ _ h => False.elim h) trivial rfl (OV.move (v := sv p_b) rfl) ?_
    obtain ⟨h10, h11, h12, t9, h13, h⟩ := h
    refine GA.take 1 rfl (by kernel_rfl) (by kernel_rfl) (by kernel_rfl) (fun _ _ _ h => False.elim h) trivial rfl (OV.sliceStr (s := p_b) h10 h11 h12 h13 rfl rfl rfl rfl rfl rfl) ?_
    refine GA.take 2 rfl (by kernel_rfl) (by kernel_rfl) (by kernel_rfl) (fun _ _ _ h => False.elim h) trivial rfl (OV.move (v := sv p_a) rfl) ?_
    obtain ⟨h16, h17, h18, t15, h19, h⟩ := h
    refine GA.take 3 rfl (by kernel_rfl) (by kernel_rfl) (by kernel_rfl) (fun _ _ _ h => False.elim h) trivial rfl (OV.sliceStr (s := p_a) h16 h17 h18 h19 rfl rfl rfl rfl rfl rfl) ?_
    refine GA.eff 4 rfl (by kernel_rfl) ?_
    refine GL.call h trivial rfl ok_value_bigs (vs := [sv t9, sv t15]) rfl ?_
    rintro _ H23 ⟨r22, rfl, h⟩
    obtain ⟨hle21, h⟩ := h
    refine GA.back hle21 ?_
    refine GA.take 5 rfl (by kernel_rfl) (by kernel_rfl) (by kernel_rfl) (fun _ _ _ h => False.elim h) trivial rfl (OV.assign (v := .int .i64 r22) rfl) ?_
    refine GA.done (by kernel_rfl) ?_
    refine GL.nil ?_
    exact GC.ret (fun _ _ hf hs => post_tmp1 rfl rfl hf hs ⟨r22, rfl, h⟩)
  · replace h := And.right h hc6
    refine GC.seq ?_
    refine GC.region ?_
    refine GL.val trivial rfl (OV.move (v := .bool r1) rfl) ?_
    refine GL.val trivial rfl (OV.assign (v := .bool r1) rfl) ?_
    refine GL.nil ?_
    refine GC.cond (b := r1) rfl (fun hc24 => ?_) (fun hc24 => ?_)
    · replace h := And.left h hc24
      refine GC.seq ?_
      refine GC.region ?_
      refine GL.val trivial rfl (OV.assign (v := .int .i64 (-1)) rfl) ?_
      refine GL.nil ?_
      exact GC.ret (fun _ _ hf hs => post_tmp1 rfl rfl hf hs ⟨(-1), rfl, h⟩)
    · replace h := And.right h hc24
      refine GC.seq ?_
      refine GC.region ?_
      refine GL.val trivial rfl (OV.move (v := .bool r3) rfl) ?_
      refine GL.val trivial rfl (OV.assign (v := .bool r3) rfl) ?_
      refine GL.nil ?_
      refine GC.cond (b := r3) rfl (fun hc25 => ?_) (fun hc25 => ?_)
      · replace h := And.left h hc25
        refine GC.seq ?_
        refine GC.region ?_
        refine GL.val trivial rfl (OV.assign (v := .int .i64 1) rfl) ?_
        refine GL.nil ?_
        exact GC.ret (fun _ _ hf hs => post_tmp1 rfl rfl hf hs ⟨1, rfl, h⟩)
      · replace h := And.right h hc25
        refine GC.skip_to (fun _ _ h => h) ?_
        refine GC.seq ?_
        refine GC.region ?_
        refine GL.val trivial rfl (OV.move (v := sv p_a) rfl) ?_
        refine GL.val trivial rfl (OV.lenStr (s := p_a) rfl rfl) ?_
        refine GL.val trivial rfl (OV.move (v := sv p_b) rfl) ?_
        refine GL.val trivial rfl (OV.lenStr (s := p_b) rfl rfl) ?_
        refine GL.call h trivial rfl ok_cmp_Compare_int (vs := [.int .i64 (List.length p_a : Int), .int .i64 (List.length p_b : Int)]) rfl ?_
        rintro _ H27 ⟨r26, rfl, h⟩
        refine GL.val trivial rfl (OV.move (v := sv p_a) rfl) ?_
        refine GL.val trivial rfl (OV.move (v := sv p_b) rfl) ?_
        refine GL.call h trivial rfl ok_cmp_Compare_string (vs := [sv p_a, sv p_b]) rfl ?_
        rintro _ H29 ⟨r28, rfl, h⟩
        refine GL.buildSlice (cs := [.int .i64 r26, .int .i64 r28]) h trivial rfl (vs := [(0, .int .i64 r26), (1, .int .i64 r28)]) rfl ⟨3, fun _ => by kernel_rfl⟩ ?_
        intro b30 H31 h
        refine GL.call h trivial rfl ok_cmp_Or_int (vs := [slv (Sl.of (some (b30, 0)) 2 2)]) rfl ?_
        rintro _ H33 ⟨r32, rfl, h⟩
        refine GL.val trivial rfl (OV.assign (v := .int .i64 r32) rfl) ?_
        refine GL.nil ?_
        exact GC.ret (fun _ _ hf hs => post_tmp1 rfl rfl hf hs ⟨r32, rfl, h⟩)

def sh_cmp_Compare_string (C : Ctx) (p_x : Str) (p_y : Str) (K : Int → Heap → Prop) (H : Heap) : Prop :=
  c_cmp_isNaN_string C p_x (fun r1 H2 =>
 c_cmp_isNaN_string C p_y (fun r3 H4 =>
 ift r1
 (ift r3
 (K 0 H4)
 (K (-1) H4))
 (ift r3
 (K 1 H4)
 (ift (slt p_x p_y)
 (K (-1) H4)
 (ift (!(slt p_x p_y || (p_x == p_y)))
 (K 1 H4)
 (K 0 H4))))) H2) H

theorem ad_cmp_Compare_string (C : Ctx) (p_x : Str) (p_y : Str) (K : Int → Heap → Prop) (H : Heap) (h : sh_cmp_Compare_string C p_x p_y K H) : c_cmp_Compare_string C p_x p_y K H := by
  refine Spec.enter Tryd.func64 rfl Tryd.ntmps64 rfl ?_
  refine GC.sub [(0, sv p_x), (1, sv p_y)] ⟨rfl, rfl, trivial⟩ ?_
  refine GC.seq ?_
  refine GC.region ?_
  refine GL.val trivial rfl (OV.assign (v := .int .i64 0) rfl) ?_
  refine GL.nil ?_
  refine GC.seq ?_
  refine GC.region ?_
  refine GL.val trivial rfl (OV.move (v := sv p_x) rfl) ?_
  refine GL.call h trivial rfl ok_cmp_isNaN_string (vs := [sv p_x]) rfl ?_
  rintro _ H2 ⟨r1, rfl, h⟩
  refine GL.val trivial rfl (OV.assign (v := .bool r1) rfl) ?_
  refine GL.nil ?_
  refine GC.seq ?_
  refine GC.region ?_
  refine GL.val trivial rfl (OV.move (v := sv p_y) rfl) ?_
  refine GL.call h trivial rfl ok_cmp_isNaN_string (vs := [sv p_y]) rfl ?_
  rintro _ H4 ⟨r3, rfl, h⟩
  refine GL.val trivial rfl (OV.assign (v := .bool r3) rfl) ?_
  refine GL.nil ?_
  refine GC.seq ?_
  refine GC.seq ?_
  refine GC.region ?_
  refine GL.val trivial rfl (OV.move (v := .bool r1) rfl) ?_
  refine GL.nil ?_
  refine GC.cond (b := r1) rfl (fun hc5 => ?_) (fun hc5 => ?_)
  · replace h := And.left h hc5
    refine GC.seq ?_
    refine GC.seq ?_
    refine GC.region ?_
    refine GL.val trivial rfl (OV.move (v := .bool r3) rfl) ?_
    refine GL.nil ?_
    refine GC.cond (b := r3) rfl (fun hc6 => ?_) (fun hc6 => ?_)
    · replace h := And.left h hc6
      refine GC.seq ?_
      refine GC.region ?_
      refine GL.val trivial rfl (OV.assign (v := .int .i64 0) rfl) ?_
      refine GL.nil ?_
      exact GC.ret (fun _ _ hf hs => post_tmp1 rfl rfl hf hs ⟨0, rfl, h⟩)
    · replace h := And.right h hc6
      refine GC.skip ?_
      refine GC.seq ?_
      refine GC.region ?_
      refine GL.val trivial rfl (OV.assign (v := .int .i64 (-1)) rfl) ?_
      refine GL.nil ?_
      exact GC.ret (fun _ _ hf hs => post_tmp1 rfl rfl hf hs ⟨(-1), rfl, h⟩)
  · replace h := And.right h hc5
    refine GC.skip ?_
    refine GC.seq ?_
    refine GC.seq ?_
    refine GC.region ?_
    refine GL.val trivial rfl (OV.move (v := .bool r3) rfl) ?_
    refine GL.nil ?_
    refine GC.cond (b := r3) rfl (fun hc7 => ?_) (fun hc7 => ?_)
    · replace h := And.left h hc7
      refine GC.seq ?_
      refine GC.region ?_
      refine GL.val trivial rfl (OV.assign (v := .int .i64 1) rfl) ?_
      refine GL.nil ?_
      exact GC.ret (fun _ _ hf hs => post_tmp1 rfl rfl hf hs ⟨1, rfl, h⟩)
    · replace h := And.right h hc7
      refine GC.skip ?_
      refine GC.seq ?_
      refine GC.seq ?_
      refine GC.region ?_
      refine GL.val trivial rfl (OV.move (v := sv p_x) rfl) ?_
      refine GL.val trivial rfl (OV.move (v := sv p_y) rfl) ?_
      refine GL.val trivial rfl (OV.sbin (a := p_x) (b := p_y) (v := .bool (slt p_x p_y)) rfl rfl rfl) ?_
      refine GL.nil ?_
      refine GC.cond (b := slt p_x p_y) rfl (fun hc8 => ?_) (fun hc8 => ?_)
      · replace h := And.left h hc8
        refine GC.seq ?_
        refine GC.region ?_
        refine GL.val trivial rfl (OV.assign (v := .int .i64 (-1)) rfl) ?_
        refine GL.nil ?_
        exact GC.ret (fun _ _ hf hs => post_tmp1 rfl rfl hf hs ⟨(-1), rfl, h⟩)
      · replace h := And.right h hc8
        refine GC.skip ?_
        refine GC.seq ?_
        refine GC.seq ?_
        refine GC.region ?_
        refine GL.val trivial rfl (OV.move (v := sv p_x) rfl) ?_
        refine GL.val trivial rfl (OV.move (v := sv p_y) rfl) ?_
        refine GL.val trivial rfl (OV.sbin (a := p_x) (b := p_y) (v := .bool (!(slt p_x p_y || (p_x == p_y)))) rfl rfl rfl) ?_
        refine GL.nil ?_
        refine GC.cond (b := !(slt p_x p_y || (p_x == p_y))) rfl (fun hc9 => ?_) (fun hc9 => ?_)
        · replace h := And.left h hc9
          refine GC.seq ?_
          refine GC.region ?_
          refine GL.val trivial rfl (OV.assign (v := .int .i64 1) rfl) ?_
          refine GL.nil ?_
          exact GC.ret (fun _ _ hf hs => post_tmp1 rfl rfl hf hs ⟨1, rfl, h⟩)
        · replace h := And.right h hc9
          refine GC.skip ?_
          refine GC.seq ?_
          refine GC.region ?_
          refine GL.val trivial rfl (OV.assign (v := .int .i64 0) rfl) ?_
          refine GL.nil ?_
          exact GC.ret (fun _ _ hf hs => post_tmp1 rfl rfl hf hs ⟨0, rfl, h⟩)

def sh_cmp_Or_int (C : Ctx) (p_vals : Sl) (K : Int → Heap → Prop) (H : Heap) : Prop :=
  lp (α := Int) 0 H (fun x1 J2 H3 =>
 ift (decide ((x1 : Int) < (Sl.len p_vals : Int)))
 (ixa p_vals x1 fun p5 =>
 ldI H3 .i64 (p5.1, p5.2 + (x1 : Int).toNat * 1) fun x10 =>
 ift ((x10 : Int) != 0)
 (K x10 H3)
 (J2 (w .i64 (x1 + 1)) H3))
 (K 0 H3))

theorem ad_cmp_Or_int (C : Ctx) (p_vals : Sl) (K : Int → Heap → Prop) (H : Heap) (h : sh_cmp_Or_int C p_vals K H) : c_cmp_Or_int C p_vals K H := by
  refine Spec.enter Tryd.func65 rfl Tryd.ntmps65 rfl ?_
  refine GC.sub [(0, slv p_vals)] ⟨rfl, trivial⟩ ?_
  refine GC.seq ?_
  refine GC.region ?_
  refine GL.val trivial rfl (OV.assign (v := .int .i64 0) rfl) ?_
  refine GL.nil ?_
  refine GC.seq ?_
  refine GC.region ?_
  refine GL.val trivial rfl (OV.assign (v := .int .i64 0) rfl) ?_
  refine GL.nil ?_
  refine GC.seq ?_
  refine GC.seq ?_
  refine GC.region ?_
  refine GL.val trivial rfl (OV.move (v := slv p_vals) rfl) ?_
  refine GL.val trivial rfl (OV.lenSl (s := p_vals) rfl rfl) ?_
  refine GL.val trivial rfl (OV.move (v := .int .i64 0) rfl) ?_
  refine GL.nil ?_
  refine GC.block ?_
  refine GC.loop (α := Int) h (fun x1 => [(8, .int .i64 x1), (3, .int .i64 0), (6, slv p_vals), (7, .int .i64 (Sl.len p_vals : Int))]) ⟨rfl, rfl, rfl, rfl, trivial⟩ ?_
  intro x1 H3 J2 h
  refine GC.seq ?_
  refine GC.region ?_
  refine GL.val trivial rfl (OV.ibin (v := .bool (decide ((x1 : Int) < (Sl.len p_vals : Int)))) rfl rfl rfl) ?_
  refine GL.nil ?_
  refine GC.seq ?_
  refine GC.cond (b := decide ((x1 : Int) < (Sl.len p_vals : Int))) rfl (fun hc4 => ?_) (fun hc4 => ?_)
  · replace h := And.left h hc4
    refine GC.skip ?_
    refine GC.seq ?_
    refine GC.block ?_
    refine GC.seq ?_
    refine GC.region ?_
    obtain ⟨p5, ha6, hb7, hc8, hd9, h⟩ := h
    refine GL.val trivial rfl (OV.indexAddr (s := p_vals) rfl rfl rfl rfl ha6 hb7 hc8 hd9) ?_
    obtain ⟨x10, hr11, h⟩ := h
    refine GL.val trivial rfl (OV.load (p := (p5.1, p5.2 + (x1 : Int).toNat * 1)) rfl rfl hr11) ?_
    refine GL.val trivial rfl (OV.assign (v := .int .i64 x10) rfl) ?_
    refine GL.nil ?_
    refine GC.seq ?_
    refine GC.region ?_
    refine GL.val trivial rfl (OV.move (v := .int .i64 x10) rfl) ?_
    refine GL.val trivial rfl (OV.move (v := .int .i64 0) rfl) ?_
    refine GL.val trivial rfl (OV.ibin (v := .bool ((x10 : Int) != 0)) rfl rfl rfl) ?_
    refine GL.nil ?_
    refine GC.cond (b := (x10 : Int) != 0) rfl (fun hc12 => ?_) (fun hc12 => ?_)
    · replace h := And.left h hc12
      refine GC.seq ?_
      refine GC.region ?_
      refine GL.val trivial rfl (OV.move (v := .int .i64 x10) rfl) ?_
      refine GL.val trivial rfl (OV.assign (v := .int .i64 x10) rfl) ?_
      refine GL.nil ?_
      exact GC.ret (fun _ _ hf hs => post_tmp1 rfl rfl hf hs ⟨x10, rfl, h⟩)
    · replace h := And.right h hc12
      refine GC.skip_to (fun _ _ h => h) ?_
      refine GC.region ?_
      refine GL.val trivial rfl (OV.ibin (v := .int .i64 (w .i64 (x1 + 1))) rfl rfl rfl) ?_
      refine GL.val trivial rfl (OV.move (v := .int .i64 (w .i64 (x1 + 1))) rfl) ?_
      exact GL.jump (fun _ _ h => h) (w .i64 (x1 + 1)) h ⟨rfl, rfl, rfl, rfl, trivial⟩
  · replace h := And.right h hc4
    refine GC.exit_to (fun _ _ h => h) ?_
    refine GC.seq ?_
    refine GC.region ?_
    refine GL.val trivial rfl (OV.move (v := .int .i64 0) rfl) ?_
    refine GL.val trivial rfl (OV.assign (v := .int .i64 0) rfl) ?_
    refine GL.nil ?_
    exact GC.ret (fun _ _ hf hs => post_tmp1 rfl rfl hf hs ⟨0, rfl, h⟩)

def sh_cmp_Compare_int64 (C : Ctx) (p_x : Int) (p_y : Int) (K : Int → Heap → Prop) (H : Heap) : Prop :=
  c_cmp_isNaN_int64 C p_x (fun r1 H2 =>
 c_cmp_isNaN_int64 C p_y (fun r3 H4 =>
 ift r1
 (ift r3
 (K 0 H4)
 (K (-1) H4))
 (ift r3
 (K 1 H4)
 (ift (decide ((p_x : Int) < p_y))
 (K (-1) H4)
 (ift (decide ((p_x : Int) > p_y))
 (K 1 H4)
 (K 0 H4))))) H2) H

theorem ad_cmp_Compare_int64 (C : Ctx) (p_x : Int) (p_y : Int) (K : Int → Heap → Prop) (H : Heap) (h : sh_cmp_Compare_int64 C p_x p_y K H) : c_cmp_Compare_int64 C p_x p_y K H := by
  refine Spec.enter Tryd.func66 rfl Tryd.ntmps66 rfl ?_
  refine GC.sub [(0, .int .i64 p_x), (1, .int .i64 p_y)] ⟨rfl, rfl, trivial⟩ ?_
  refine GC.seq ?_
  refine GC.region ?_
  refine GL.val trivial rfl (OV.assign (v := .int .i64 0) rfl) ?_
  refine GL.nil ?_
  refine GC.seq ?_
  refine GC.region ?_
  refine GL.val trivial rfl (OV.move (v := .int .i64 p_x) rfl) ?_
  refine GL.call h trivial rfl ok_cmp_isNaN_int64 (vs := [.int .i64 p_x]) rfl ?_
  rintro _ H2 ⟨r1, rfl, h⟩
  refine GL.val trivial rfl (OV.assign (v := .bool r1) rfl) ?_
  refine GL.nil ?_
  refine GC.seq ?_
  refine GC.region ?_
  refine GL.val trivial rfl (OV.move (v := .int .i64 p_y) rfl) ?_
  refine GL.call h trivial rfl ok_cmp_isNaN_int64 (vs := [.int .i64 p_y]) rfl ?_
  rintro _ H4 ⟨r3, rfl, h⟩
  refine GL.val trivial rfl (OV.assign (v := .bool r3) rfl) ?_
  refine GL.nil ?_
  refine GC.seq ?_
  refine GC.seq ?_
  refine GC.region ?_
  refine GL.val trivial rfl (OV.move (v := .bool r1) rfl) ?_
  refine GL.nil ?_
  refine GC.cond (b := r1) rfl (fun hc5 => ?_) (fun hc5 => ?_)
  · replace h := And.left h hc5
    refine GC.seq ?_
    refine GC.seq ?_
    refine GC.region ?_
    refine GL.val trivial rfl (OV.move (v := .bool r3) rfl) ?_
    refine GL.nil ?_
    refine GC.cond (b := r3) rfl (fun hc6 => ?_) (fun hc6 => ?_)
    · replace h := And.left h hc6
      refine GC.seq ?_
      refine GC.region ?_
      refine GL.val trivial rfl (OV.assign (v := .int .i64 0) rfl) ?_
      refine GL.nil ?_
      exact GC.ret (fun _ _ hf hs => post_tmp1 rfl rfl hf hs ⟨0, rfl, h⟩)
    · replace h := And.right h hc6
      refine GC.skip ?_
      refine GC.seq ?_
      refine GC.region ?_
      refine GL.val trivial rfl (OV.assign (v := .int .i64 (-1)) rfl) ?_
      refine GL.nil ?_
      exact GC.ret (fun _ _ hf hs => post_tmp1 rfl rfl hf hs ⟨(-1), rfl, h⟩)
  · replace h := And.right h hc5
    refine GC.skip ?_
    refine GC.seq ?_
    refine GC.seq ?_
    refine GC.region ?_
    refine GL.val trivial rfl (OV.move (v := .bool r3) rfl) ?_
    refine GL.nil ?_
    refine GC.cond (b := r3) rfl (fun hc7 => ?_) (fun hc7 => ?_)
    · replace h := And.left h hc7
      refine GC.seq ?_
      refine GC.region ?_
      refine GL.val trivial rfl (OV.assign (v := .int .i64 1) rfl) ?_
      refine GL.nil ?_
      exact GC.ret (fun _ _ hf hs => post_tmp1 rfl rfl hf hs ⟨1, rfl, h⟩)
    · replace h := And.right h hc7
      refine GC.skip ?_
      refine GC.seq ?_
      refine GC.seq ?_
      refine GC.region ?_
      refine GL.val trivial rfl (OV.move (v := .int .i64 p_x) rfl) ?_
      refine GL.val trivial rfl (OV.move (v := .int .i64 p_y) rfl) ?_
      refine GL.val trivial rfl (OV.ibin (v := .bool (decide ((p_x : Int) < p_y))) rfl rfl rfl) ?_
      refine GL.nil ?_
      refine GC.cond (b := decide ((p_x : Int) < p_y)) rfl (fun hc8 => ?_) (fun hc8 => ?_)
      · replace h := And.left h hc8
        refine GC.seq ?_
        refine GC.region ?_
        refine GL.val trivial rfl (OV.assign (v := .int .i64 (-1)) rfl) ?_
        refine GL.nil ?_
        exact GC.ret (fun _ _ hf hs => post_tmp1 rfl rfl hf hs ⟨(-1), rfl, h⟩)
      · replace h := And.right h hc8
        refine GC.skip ?_
        refine GC.seq ?_
        refine GC.seq ?_
        refine GC.region ?_
        refine GL.val trivial rfl (OV.move (v := .int .i64 p_x) rfl) ?_
        refine GL.val trivial rfl (OV.move (v := .int .i64 p_y) rfl) ?_
        refine GL.val trivial rfl (OV.ibin (v := .bool (decide ((p_x : Int) > p_y))) rfl rfl rfl) ?_
        refine GL.nil ?_
        refine GC.cond (b := decide ((p_x : Int) > p_y)) rfl (fun hc9 => ?_) (fun hc9 => ?_)
        · replace h := And.left h hc9
          refine GC.seq ?_
          refine GC.region ?_
          refine GL.val trivial rfl (OV.assign (v := .int .i64 1) rfl) ?_
          refine GL.nil ?_
          exact GC.ret (fun _ _ hf hs => post_tmp1 rfl rfl hf hs ⟨1, rfl, h⟩)
        · replace h := And.right h hc9
          refine GC.skip ?_
          refine GC.seq ?_
          refine GC.region ?_
          refine GL.val trivial rfl (OV.assign (v := .int .i64 0) rfl) ?_
          refine GL.nil ?_
          exact GC.ret (fun _ _ hf hs => post_tmp1 rfl rfl hf hs ⟨0, rfl, h⟩)

def sh_slices_insertionSortCmpFunc_api_Value (C : Ctx) (p_data : Sl) (p_a : Int) (p_b : Int) (p_cmp : Value) (K : Heap → Prop) (H : Heap) : Prop :=
  lp (α := Int) (w .i64 (p_a + 1)) H (fun x1 J2 H3 =>
 ift (decide ((x1 : Int) < p_b))
 (lp (α := Int) x1 H3 (fun x5 J6 H7 =>
 jn (α := Bool) (fun x9 H10 =>
 ift x9
 (jn (α := Unit) (fun x34 H35 =>
 J6 (w .i64 (x5 - 1)) H35)
 (fun J33 => dr H10 fun Hs37 =>
 ixa p_data (w .i64 (x5 - 1)) fun p39 =>
 ixa p_data x5 fun p44 =>
 (ldL H10 (p39.1, p39.2 + (w .i64 (x5 - 1) : Int).toNat * 1) fun x50 =>
 Heap.le Hs37 H10 ∧
 ldL H10 (p44.1, p44.2 + (x5 : Int).toNat * 1) fun x53 =>
 Heap.le Hs37 H10 ∧
 ixa p_data x5 fun p55 =>
 st (p55.1, p55.2 + (x5 : Int).toNat * 1) (slv x50) (fun H61 =>
 Heap.le Hs37 H61 ∧
 ixa p_data (w .i64 (x5 - 1)) fun p62 =>
 st (p62.1, p62.2 + (w .i64 (x5 - 1) : Int).toNat * 1) (slv x53) (fun H67 =>
 J33 () H67) H61) H10) ∧
 (ldL H10 (p44.1, p44.2 + (x5 : Int).toNat * 1) fun x69 =>
 Heap.le Hs37 H10 ∧
 ldL H10 (p39.1, p39.2 + (w .i64 (x5 - 1) : Int).toNat * 1) fun x72 =>
 Heap.le Hs37 H10 ∧
 ixa p_data x5 fun p74 =>
 st (p74.1, p74.2 + (x5 : Int).toNat * 1) (slv x72) (fun H80 =>
 Heap.le Hs37 H80 ∧
 ixa p_data (w .i64 (x5 - 1)) fun p81 =>
 st (p81.1, p81.2 + (w .i64 (x5 - 1) : Int).toNat * 1) (slv x69) (fun H86 =>
 J33 () H86) H80) H10)))
 (J2 (w .i64 (x1 + 1)) H10))
 (fun J8 => dr H7 fun Hs12 =>
 ift (decide ((x5 : Int) > p_a))
 (ixa p_data x5 fun p15 =>
 ldL Hs12 (p15.1, p15.2 + (x5 : Int).toNat * 1) fun x20 =>
 ixa p_data (w .i64 (x5 - 1)) fun p22 =>
 ldL Hs12 (p22.1, p22.2 + (w .i64 (x5 - 1) : Int).toNat * 1) fun x27 =>
 callU Tryd.prog C p_cmp [slv x20, slv x27] H7 (fun v H31 => ∃ (r30 : Int), v = .int .i64 r30 ∧
 Heap.le Hs12 H31 ∧
 J8 (decide ((r30 : Int) < 0)) H31))
 (J8 false H7))))
 (K H3))

theorem ad_slices_insertionSortCmpFunc_api_Value (C : Ctx) (p_data : Sl) (p_a : Int) (p_b : Int) (p_cmp : Value) (K : Heap → Prop) (H : Heap) (h : sh_slices_insertionSortCmpFunc_api_Value C p_data p_a p_b p_cmp K H) : c_slices_insertionSortCmpFunc_api_Value C p_data p_a p_b p_cmp K H := by
  refine Spec.enter Tryd.func67 rfl Tryd.ntmps67 rfl ?_
  refine GC.sub [(0, slv p_data), (1, .int .i64 p_a), (2, .int .i64 p_b), (3, p_cmp)] ⟨rfl, rfl, rfl, rfl, trivial⟩ ?_
  refine GC.seq ?_
  refine GC.region ?_
  refine GL.val trivial rfl (OV.move (v := .int .i64 p_a) rfl) ?_
  refine GL.val trivial rfl (OV.ibin (v := .int .i64 (w .i64 (p_a + 1))) rfl rfl rfl) ?_
  refine GL.val trivial rfl (OV.assign (v := .int .i64 (w .i64 (p_a + 1))) rfl) ?_
  refine GL.nil ?_
  refine GC.block ?_
  refine GC.loop (α := Int) h (fun x1 => [(8, .int .i64 x1), (0, slv p_data), (1, .int .i64 p_a), (2, .int .i64 p_b), (3, p_cmp)]) ⟨rfl, rfl, rfl, rfl, rfl, trivial⟩ ?_
  intro x1 H3 J2 h
  refine GC.seq ?_
  refine GC.seq ?_
  refine GC.region ?_
  refine GL.val trivial rfl (OV.move (v := .int .i64 x1) rfl) ?_
  refine GL.val trivial rfl (OV.move (v := .int .i64 p_b) rfl) ?_
  refine GL.val trivial rfl (OV.ibin (v := .bool (decide ((x1 : Int) < p_b))) rfl rfl rfl) ?_
  refine GL.nil ?_
  refine GC.cond (b := decide ((x1 : Int) < p_b)) rfl (fun hc4 => ?_) (fun hc4 => ?_)
  · replace h := And.left h hc4
    refine GC.skip ?_
    refine GC.seq ?_
    refine GC.block ?_
    refine GC.seq ?_
    refine GC.region ?_
    refine GL.val trivial rfl (OV.move (v := .int .i64 x1) rfl) ?_
    refine GL.val trivial rfl (OV.assign (v := .int .i64 x1) rfl) ?_
    refine GL.nil ?_
    refine GC.block ?_
    refine GC.loop (α := Int) h (fun x5 => [(9, .int .i64 x5), (0, slv p_data), (1, .int .i64 p_a), (2, .int .i64 p_b), (3, p_cmp), (8, .int .i64 x1)]) ⟨rfl, rfl, rfl, rfl, rfl, rfl, trivial⟩ ?_
    intro x5 H7 J6 h
    refine GC.seq ?_
    refine GC.seq ?_
    obtain ⟨J8, h, hR11⟩ := h
    refine GC.meet (α := Bool) J8 (fun x9 => [(34, .bool x9), (0, slv p_data), (1, .int .i64 p_a), (2, .int .i64 p_b), (3, p_cmp), (8, .int .i64 x1), (9, .int .i64 x5)]) ?_ ?_
    · skip
      obtain ⟨Hs12, hle13, h⟩ := h
      refine GC.any (Hs := Hs12) (by kernel_rfl) hle13 ?_
      refine GA.take 0 rfl (by kernel_rfl) (by kernel_rfl) (by kernel_rfl) (fun _ _ _ h => False.elim h) trivial rfl (OV.move (v := .int .i64 x5) rfl) ?_
      refine GA.take 1 rfl (by kernel_rfl) (by kernel_rfl) (by kernel_rfl) (fun _ _ _ h => False.elim h) trivial rfl (OV.move (v := .int .i64 p_a) rfl) ?_
      refine GA.take 2 rfl (by kernel_rfl) (by kernel_rfl) (by kernel_rfl) (fun _ _ _ h => False.elim h) trivial rfl (OV.ibin (v := .bool (decide ((x5 : Int) > p_a))) rfl rfl rfl) ?_
      refine GA.take 3 rfl (by kernel_rfl) (by kernel_rfl) (by kernel_rfl) (fun _ _ _ h => False.elim h) trivial rfl (OV.move (v := .bool (decide ((x5 : Int) > p_a))) rfl) ?_
      rcases Bool.eq_false_or_eq_true (decide ((x5 : Int) > p_a)) with hc14 | hc14
      · replace h := And.left h hc14
        refine GA.take 4 rfl (by kernel_rfl) (by kernel_rfl) (by kernel_rfl) (fun _ _ _ h => False.elim h) ⟨_, _, rfl, rfl, hc14⟩ rfl (OV.move (v := p_cmp) rfl) ?_
        refine GA.take 5 rfl (by kernel_rfl) (by kernel_rfl) (by kernel_rfl) (fun _ _ _ h => False.elim h) ⟨_, _, rfl, rfl, hc14⟩ rfl (OV.move (v := slv p_data) rfl) ?_
        refine GA.take 6 rfl (by kernel_rfl) (by kernel_rfl) (by kernel_rfl) (fun _ _ _ h => False.elim h) ⟨_, _, rfl, rfl, hc14⟩ rfl (OV.move (v := .int .i64 x5) rfl) ?_
        obtain ⟨p15, ha16, hb17, hc18, hd19, h⟩ := h
        refine GA.take 7 rfl (by kernel_rfl) (by kernel_rfl) (by kernel_rfl) (fun _ _ _ h => False.elim h) ⟨_, _, rfl, rfl, hc14⟩ rfl (OV.indexAddr (s := p_data) rfl rfl rfl rfl ha16 hb17 hc18 hd19) ?_
        obtain ⟨x20, hr21, h⟩ := h
        refine GA.take 8 rfl (by kernel_rfl) (by kernel_rfl) (by kernel_rfl) (fun _ _ _ h => False.elim h) ⟨_, _, rfl, rfl, hc14⟩ rfl (OV.load (p := (p15.1, p15.2 + (x5 : Int).toNat * 1)) rfl rfl hr21) ?_
        refine GA.take 9 rfl (by kernel_rfl) (by kernel_rfl) (by kernel_rfl) (fun _ _ _ h => False.elim h) ⟨_, _, rfl, rfl, hc14⟩ rfl (OV.move (v := slv p_data) rfl) ?_
        refine GA.take 10 rfl (by kernel_rfl) (by kernel_rfl) (by kernel_rfl) (fun _ _ _ h => False.elim h) ⟨_, _, rfl, rfl, hc14⟩ rfl (OV.move (v := .int .i64 x5) rfl) ?_
        refine GA.take 11 rfl (by kernel_rfl) (by kernel_rfl) (by kernel_rfl) (fun _ _ _ h => False.elim h) ⟨_, _, rfl, rfl, hc14⟩ rfl (OV.ibin (v := .int .i64 (w .i64 (x5 - 1))) rfl rfl rfl) ?_
        obtain ⟨p22, ha23, hb24, hc25, hd26, h⟩ := h
        refine GA.take 12 rfl (by kernel_rfl) (by kernel_rfl) (by kernel_rfl) (fun _ _ _ h => False.elim h) ⟨_, _, rfl, rfl, hc14⟩ rfl (OV.indexAddr (s := p_data) rfl rfl rfl rfl ha23 hb24 hc25 hd26) ?_
        obtain ⟨x27, hr28, h⟩ := h
        refine GA.take 13 rfl (by kernel_rfl) (by kernel_rfl) (by kernel_rfl) (fun _ _ _ h => False.elim h) ⟨_, _, rfl, rfl, hc14⟩ rfl (OV.load (p := (p22.1, p22.2 + (w .i64 (x5 - 1) : Int).toNat * 1)) rfl rfl hr28) ?_
        refine GA.eff 14 rfl (by kernel_rfl) ?_
        refine GL.callU (xv := p_cmp) (vs := [slv x20, slv x27]) h ⟨_, _, rfl, rfl, hc14⟩ rfl rfl rfl ?_
        rintro _ H31 ⟨r30, rfl, h⟩
        obtain ⟨hle29, h⟩ := h
        refine GA.back hle29 ?_
        refine GA.take 15 rfl (by kernel_rfl) (by kernel_rfl) (by kernel_rfl) (fun _ _ _ h => False.elim h) ⟨_, _, rfl, rfl, hc14⟩ rfl (OV.ibin (v := .bool (decide ((r30 : Int) < 0))) rfl rfl rfl) ?_
        refine GA.take 16 rfl (by kernel_rfl) (by kernel_rfl) (by kernel_rfl) (fun _ _ _ h => False.elim h) trivial rfl (OV.pickT (b := decide ((x5 : Int) > p_a)) (v := .bool (decide ((r30 : Int) < 0))) rfl hc14 rfl) ?_
        refine GA.done (by kernel_rfl) ?_
        exact GL.jump (fun _ _ h => h) (decide ((r30 : Int) < 0)) h ⟨rfl, rfl, rfl, rfl, rfl, rfl, rfl, trivial⟩
      · replace h := And.right h hc14
        refine GA.skip 4 rfl (by kernel_rfl) (by kernel_rfl) (by kernel_rfl) (fun _ _ _ h => False.elim h) ⟨_, rfl, .inl ⟨_, rfl, hc14⟩⟩ rfl ?_
        refine GA.skip 5 rfl (by kernel_rfl) (by kernel_rfl) (by kernel_rfl) (fun _ _ _ h => False.elim h) ⟨_, rfl, .inl ⟨_, rfl, hc14⟩⟩ rfl ?_
        refine GA.skip 6 rfl (by kernel_rfl) (by kernel_rfl) (by kernel_rfl) (fun _ _ _ h => False.elim h) ⟨_, rfl, .inl ⟨_, rfl, hc14⟩⟩ rfl ?_
        refine GA.skip 7 rfl (by kernel_rfl) (by kernel_rfl) (by kernel_rfl) (fun _ _ _ h => False.elim h) ⟨_, rfl, .inl ⟨_, rfl, hc14⟩⟩ rfl ?_
        refine GA.skip 8 rfl (by kernel_rfl) (by kernel_rfl) (by kernel_rfl) (fun _ _ _ h => False.elim h) ⟨_, rfl, .inl ⟨_, rfl, hc14⟩⟩ rfl ?_
        refine GA.skip 9 rfl (by kernel_rfl) (by kernel_rfl) (by kernel_rfl) (fun _ _ _ h => False.elim h) ⟨_, rfl, .inl ⟨_, rfl, hc14⟩⟩ rfl ?_
        refine GA.skip 10 rfl (by kernel_rfl) (by kernel_rfl) (by kernel_rfl) (fun _ _ _ h => False.elim h) ⟨_, rfl, .inl ⟨_, rfl, hc14⟩⟩ rfl ?_
        refine GA.skip 11 rfl (by kernel_rfl) (by kernel_rfl) (by kernel_rfl) (fun _ _ _ h => False.elim h) ⟨_, rfl, .inl ⟨_, rfl, hc14⟩⟩ rfl ?_
        refine GA.skip 12 rfl (by kernel_rfl) (by kernel_rfl) (by kernel_rfl) (fun _ _ _ h => False.elim h) ⟨_, rfl, .inl ⟨_, rfl, hc14⟩⟩ rfl ?_
        refine GA.skip 13 rfl (by kernel_rfl) (by kernel_rfl) (by kernel_rfl) (fun _ _ _ h => False.elim h) ⟨_, rfl, .inl ⟨_, rfl, hc14⟩⟩ rfl ?_
        refine GA.skip 14 rfl (by kernel_rfl) (by kernel_rfl) (by kernel_rfl) (fun _ _ _ h => False.elim h) ⟨_, rfl, .inl ⟨_, rfl, hc14⟩⟩ rfl ?_
        refine GA.skip 15 rfl (by kernel_rfl) (by kernel_rfl) (by kernel_rfl) (fun _ _ _ h => False.elim h) ⟨_, rfl, .inl ⟨_, rfl, hc14⟩⟩ rfl ?_
        refine GA.take 16 rfl (by kernel_rfl) (by kernel_rfl) (by kernel_rfl) (fun _ _ _ h => False.elim h) trivial rfl (OV.pickF (b := decide ((x5 : Int) > p_a)) (v := .bool false) rfl hc14 rfl) ?_
        refine GA.done (by kernel_rfl) ?_
        exact GL.jump (fun _ _ h => h) false h ⟨rfl, rfl, rfl, rfl, rfl, rfl, rfl, trivial⟩
    · intro x9 H10 h
      replace h := hR11 x9 H10 h
      refine GL.nil ?_
      refine GC.cond (b := x9) rfl (fun hc32 => ?_) (fun hc32 => ?_)
      · replace h := And.left h hc32
        refine GC.skip ?_
        refine GC.seq ?_
        refine GC.block ?_
        obtain ⟨J33, h, hR36⟩ := h
        refine GC.meet (α := Unit) J33 (fun _ => [(0, slv p_data), (1, .int .i64 p_a), (2, .int .i64 p_b), (3, p_cmp), (8, .int .i64 x1), (9, .int .i64 x5)]) ?_ ?_
        · skip
          obtain ⟨Hs37, hle38, h⟩ := h
          refine GC.tail (Hs := Hs37) 17 (by kernel_rfl) hle38 (by kernel_rfl) ?_
          refine GT.take 0 rfl (by kernel_rfl) (by kernel_rfl) (by kernel_rfl) rfl (fun _ _ _ h => False.elim h) trivial rfl (OV.move (v := slv p_data) rfl) ?_
          refine GT.take 1 rfl (by kernel_rfl) (by kernel_rfl) (by kernel_rfl) rfl (fun _ _ _ h => False.elim h) trivial rfl (OV.move (v := .int .i64 x5) rfl) ?_
          refine GT.take 2 rfl (by kernel_rfl) (by kernel_rfl) (by kernel_rfl) rfl (fun _ _ _ h => False.elim h) trivial rfl (OV.move (v := slv p_data) rfl) ?_
          refine GT.take 3 rfl (by kernel_rfl) (by kernel_rfl) (by kernel_rfl) rfl (fun _ _ _ h => False.elim h) trivial rfl (OV.move (v := .int .i64 x5) rfl) ?_
          refine GT.take 4 rfl (by kernel_rfl) (by kernel_rfl) (by kernel_rfl) rfl (fun _ _ _ h => False.elim h) trivial rfl (OV.ibin (v := .int .i64 (w .i64 (x5 - 1))) rfl rfl rfl) ?_
          refine GT.take 5 rfl (by kernel_rfl) (by kernel_rfl) (by kernel_rfl) rfl (fun _ _ _ h => False.elim h) trivial rfl (OV.move (v := slv p_data) rfl) ?_
          refine GT.take 6 rfl (by kernel_rfl) (by kernel_rfl) (by kernel_rfl) rfl (fun _ _ _ h => False.elim h) trivial rfl (OV.move (v := .int .i64 x5) rfl) ?_
          refine GT.take 7 rfl (by kernel_rfl) (by kernel_rfl) (by kernel_rfl) rfl (fun _ _ _ h => False.elim h) trivial rfl (OV.ibin (v := .int .i64 (w .i64 (x5 - 1))) rfl rfl rfl) ?_
          obtain ⟨p39, ha40, hb41, hc42, hd43, h⟩ := h
          refine GT.take 8 rfl (by kernel_rfl) (by kernel_rfl) (by kernel_rfl) rfl (fun _ _ _ h => False.elim h) trivial rfl (OV.indexAddr (s := p_data) rfl rfl rfl rfl ha40 hb41 hc42 hd43) ?_
          refine GT.take 10 rfl (by kernel_rfl) (by kernel_rfl) (by kernel_rfl) rfl (fun _ _ _ h => False.elim h) trivial rfl (OV.move (v := slv p_data) rfl) ?_
          refine GT.take 11 rfl (by kernel_rfl) (by kernel_rfl) (by kernel_rfl) rfl (fun _ _ _ h => False.elim h) trivial rfl (OV.move (v := .int .i64 x5) rfl) ?_
          obtain ⟨p44, ha45, hb46, hc47, hd48, h⟩ := h
          refine GT.take 12 rfl (by kernel_rfl) (by kernel_rfl) (by kernel_rfl) rfl (fun _ _ _ h => False.elim h) trivial rfl (OV.indexAddr (s := p_data) rfl rfl rfl rfl ha45 hb46 hc47 hd48) ?_
          refine GT.effs [9, 13] (by kernel_rfl) (by simp) (List.forall_mem_cons.2 ⟨⟨_, rfl, rfl, ?_⟩, List.forall_mem_cons.2 ⟨⟨_, rfl, rfl, ?_⟩, fun _ h => by cases h⟩⟩)
          · replace h := h.1
            obtain ⟨x50, hr51, h⟩ := h
            refine GL.val trivial rfl (OV.load (p := (p39.1, p39.2 + (w .i64 (x5 - 1) : Int).toNat * 1)) rfl rfl hr51) ?_
            obtain ⟨hle49, h⟩ := h
            refine GT.back hle49 ?_
            refine GT.eff 13 rfl (by kernel_rfl) rfl ?_
            obtain ⟨x53, hr54, h⟩ := h
            refine GL.val trivial rfl (OV.load (p := (p44.1, p44.2 + (x5 : Int).toNat * 1)) rfl rfl hr54) ?_
            obtain ⟨hle52, h⟩ := h
            refine GT.back hle52 ?_
            obtain ⟨p55, ha56, hb57, hc58, hd59, h⟩ := h
            refine GT.take 14 rfl (by kernel_rfl) (by kernel_rfl) (by kernel_rfl) rfl (fun _ _ _ h => False.elim h) trivial rfl (OV.indexAddr (s := p_data) rfl rfl rfl rfl ha56 hb57 hc58 hd59) ?_
            refine GT.eff 15 rfl (by kernel_rfl) rfl ?_
            refine GL.store (p := (p55.1, p55.2 + (x5 : Int).toNat * 1)) (v := slv x50) h trivial rfl rfl rfl rfl ?_
            intro H61 h
            obtain ⟨hle60, h⟩ := h
            refine GT.back hle60 ?_
            obtain ⟨p62, ha63, hb64, hc65, hd66, h⟩ := h
            refine GT.take 16 rfl (by kernel_rfl) (by kernel_rfl) (by kernel_rfl) rfl (fun _ _ _ h => False.elim h) trivial rfl (OV.indexAddr (s := p_data) rfl rfl rfl rfl ha63 hb64 hc65 hd66) ?_
            refine GT.done (by kernel_rfl) ?_
            show GL _ _ _ _ _ [_] _ _
            refine GL.store (p := (p62.1, p62.2 + (w .i64 (x5 - 1) : Int).toNat * 1)) (v := slv x53) h trivial rfl rfl rfl rfl ?_
            intro H67 h
            exact GL.jump (fun _ _ h => h) () h ⟨rfl, rfl, rfl, rfl, rfl, rfl, trivial⟩
          · replace h := h.2
            obtain ⟨x69, hr70, h⟩ := h
            refine GL.val trivial rfl (OV.load (p := (p44.1, p44.2 + (x5 : Int).toNat * 1)) rfl rfl hr70) ?_
            obtain ⟨hle68, h⟩ := h
            refine GT.back hle68 ?_
            refine GT.eff 9 rfl (by kernel_rfl) rfl ?_
            obtain ⟨x72, hr73, h⟩ := h
            refine GL.val trivial rfl (OV.load (p := (p39.1, p39.2 + (w .i64 (x5 - 1) : Int).toNat * 1)) rfl rfl hr73) ?_
            obtain ⟨hle71, h⟩ := h
            refine GT.back hle71 ?_
            obtain ⟨p74, ha75, hb76, hc77, hd78, h⟩ := h
            refine GT.take 14 rfl (by kernel_rfl) (by kernel_rfl) (by kernel_rfl) rfl (fun _ _ _ h => False.elim h) trivial rfl (OV.indexAddr (s := p_data) rfl rfl rfl rfl ha75 hb76 hc77 hd78) ?_
            refine GT.eff 15 rfl (by kernel_rfl) rfl ?_
            refine GL.store (p := (p74.1, p74.2 + (x5 : Int).toNat * 1)) (v := slv x72) h trivial rfl rfl rfl rfl ?_
            intro H80 h
            obtain ⟨hle79, h⟩ := h
            refine GT.back hle79 ?_
            obtain ⟨p81, ha82, hb83, hc84, hd85, h⟩ := h
            refine GT.take 16 rfl (by kernel_rfl) (by kernel_rfl) (by kernel_rfl) rfl (fun _ _ _ h => False.elim h) trivial rfl (OV.indexAddr (s := p_data) rfl rfl rfl rfl ha82 hb83 hc84 hd85) ?_
            refine GT.done (by kernel_rfl) ?_
            show GL _ _ _ _ _ [_] _ _
            refine GL.store (p := (p81.1, p81.2 + (w .i64 (x5 - 1) : Int).toNat * 1)) (v := slv x69) h trivial rfl rfl rfl rfl ?_
            intro H86 h
            exact GL.jump (fun _ _ h => h) () h ⟨rfl, rfl, rfl, rfl, rfl, rfl, trivial⟩
        · intro x34 H35 h
          replace h := hR36 x34 H35 h
          refine GL.nil_to (fun _ _ h => h) ?_
          refine GC.region ?_
          refine GL.val trivial rfl (OV.move (v := .int .i64 x5) rfl) ?_
          refine GL.val trivial rfl (OV.ibin (v := .int .i64 (w .i64 (x5 - 1))) rfl rfl rfl) ?_
          refine GL.val trivial rfl (OV.assign (v := .int .i64 (w .i64 (x5 - 1))) rfl) ?_
          exact GL.jump (fun _ _ h => h) (w .i64 (x5 - 1)) h ⟨rfl, rfl, rfl, rfl, rfl, rfl, trivial⟩
      · replace h := And.right h hc32
        refine GC.exit_to (fun _ _ h => h) ?_
        refine GC.region ?_
        refine GL.val trivial rfl (OV.move (v := .int .i64 x1) rfl) ?_
        refine GL.val trivial rfl (OV.ibin (v := .int .i64 (w .i64 (x1 + 1))) rfl rfl rfl) ?_
        refine GL.val trivial rfl (OV.assign (v := .int .i64 (w .i64 (x1 + 1))) rfl) ?_
        exact GL.jump (fun _ _ h => h) (w .i64 (x1 + 1)) h ⟨rfl, rfl, rfl, rfl, rfl, trivial⟩
  · replace h := And.right h hc4
    exact GC.exit_ends (fun _ _ hf hs => post_tmp0 rfl hf hs ⟨rfl, h⟩)

def sh_slices_symMergeCmpFunc_api_Value (C : Ctx) (p_data : Sl) (p_a : Int) (p_m : Int) (p_b : Int) (p_cmp : Value) (K : Heap → Prop) (H : Heap) : Prop :=
  ift (((w .i64 (p_m - p_a)) : Int) == 1)
 (lp (α := Int × Int) (p_m, p_b) H (fun x2 J3 H4 =>
 ift (decide ((x2.1 : Int) < x2.2))
 (dr H4 fun Hs6 =>
 ixa p_data (w .i64 (sShr .u64 (w .u64 (w .i64 (x2.1 + x2.2))) 1)) fun p8 =>
 ldL Hs6 (p8.1, p8.2 + (w .i64 (sShr .u64 (w .u64 (w .i64 (x2.1 + x2.2))) 1) : Int).toNat * 1) fun x13 =>
 ixa p_data p_a fun p15 =>
 ldL Hs6 (p15.1, p15.2 + (p_a : Int).toNat * 1) fun x20 =>
 callU Tryd.prog C p_cmp [slv x13, slv x20] H4 (fun v H24 => ∃ (r23 : Int), v = .int .i64 r23 ∧
 Heap.le Hs6 H24 ∧
 ift (decide ((r23 : Int) < 0))
 (J3 ((w .i64 ((w .i64 (sShr .u64 (w .u64 (w .i64 (x2.1 + x2.2))) 1)) + 1)), x2.2) H24)
 (J3 (x2.1, (w .i64 (sShr .u64 (w .u64 (w .i64 (x2.1 + x2.2))) 1))) H24)))
 (lp (α := Int) p_a H4 (fun x26 J27 H28 =>
 ift (decide ((x26 : Int) < (w .i64 (x2.1 - 1))))
 (jn (α := Unit) (fun x31 H32 =>
 J27 (w .i64 (x26 + 1)) H32)
 (fun J30 => dr H28 fun Hs34 =>
 ixa p_data (w .i64 (x26 + 1)) fun p36 =>
 ixa p_data x26 fun p41 =>
 (ldL H28 (p36.1, p36.2 + (w .i64 (x26 + 1) : Int).toNat * 1) fun x47 =>
 Heap.le Hs34 H28 ∧
 ldL H28 (p41.1, p41.2 + (x26 : Int).toNat * 1) fun x50 =>
 Heap.le Hs34 H28 ∧
 ixa p_data x26 fun p52 =>
 st (p52.1, p52.2 + (x26 : Int).toNat * 1) (slv x47) (fun H58 =>
 Heap.le Hs34 H58 ∧
 ixa p_data (w .i64 (x26 + 1)) fun p59 =>
 st (p59.1, p59.2 + (w .i64 (x26 + 1) : Int).toNat * 1) (slv x50) (fun H64 =>
 J30 () H64) H58) H28) ∧
 (ldL H28 (p41.1, p41.2 + (x26 : Int).toNat * 1) fun x66 =>
 Heap.le Hs34 H28 ∧
 ldL H28 (p36.1, p36.2 + (w .i64 (x26 + 1) : Int).toNat * 1) fun x69 =>
 Heap.le Hs34 H28 ∧
 ixa p_data x26 fun p71 =>
 st (p71.1, p71.2 + (x26 : Int).toNat * 1) (slv x69) (fun H77 =>
 Heap.le Hs34 H77 ∧
 ixa p_data (w .i64 (x26 + 1)) fun p78 =>
 st (p78.1, p78.2 + (w .i64 (x26 + 1) : Int).toNat * 1) (slv x66) (fun H83 =>
 J30 () H83) H77) H28)))
 (K H28)))))
 (ift (((w .i64 (p_b - p_m)) : Int) == 1)
 (lp (α := Int × Int) (p_a, p_m) H (fun x85 J86 H87 =>
 ift (decide ((x85.1 : Int) < x85.2))
 (dr H87 fun Hs89 =>
 ixa p_data p_m fun p91 =>
 ldL Hs89 (p91.1, p91.2 + (p_m : Int).toNat * 1) fun x96 =>
 ixa p_data (w .i64 (sShr .u64 (w .u64 (w .i64 (x85.1 + x85.2))) 1)) fun p98 =>
 ldL Hs89 (p98.1, p98.2 + (w .i64 (sShr .u64 (w .u64 (w .i64 (x85.1 + x85.2))) 1) : Int).toNat * 1) fun x103 =>
 callU Tryd.prog C p_cmp [slv x96, slv x103] H87 (fun v H107 => ∃ (r106 : Int), v = .int .i64 r106 ∧
 Heap.le Hs89 H107 ∧
 ift (!(decide ((r106 : Int) < 0)))
 (J86 ((w .i64 ((w .i64 (sShr .u64 (w .u64 (w .i64 (x85.1 + x85.2))) 1)) + 1)), x85.2) H107)
 (J86 (x85.1, (w .i64 (sShr .u64 (w .u64 (w .i64 (x85.1 + x85.2))) 1))) H107)))
 (lp (α := Int) p_m H87 (fun x109 J110 H111 =>
 ift (decide ((x109 : Int) > x85.1))
 (jn (α := Unit) (fun x114 H115 =>
 J110 (w .i64 (x109 - 1)) H115)
 (fun J113 => dr H111 fun Hs117 =>
 ixa p_data (w .i64 (x109 - 1)) fun p119 =>
 ixa p_data x109 fun p124 =>
 (ldL H111 (p119.1, p119.2 + (w .i64 (x109 - 1) : Int).toNat * 1) fun x130 =>
 Heap.le Hs117 H111 ∧
 ldL H111 (p124.1, p124.2 + (x109 : Int).toNat * 1) fun x133 =>
 Heap.le Hs117 H111 ∧
 ixa p_data x109 fun p135 =>
 st (p135.1, p135.2 + (x109 : Int).toNat * 1) (slv x130) (fun H141 =>
 Heap.le Hs117 H141 ∧
 ixa p_data (w .i64 (x109 - 1)) fun p142 =>
 st (p142.1, p142.2 + (w .i64 (x109 - 1) : Int).toNat * 1) (slv x133) (fun H147 =>
 J113 () H147) H141) H111) ∧
 (ldL H111 (p124.1, p124.2 + (x109 : Int).toNat * 1) fun x149 =>
 Heap.le Hs117 H111 ∧
 ldL H111 (p119.1, p119.2 + (w .i64 (x109 - 1) : Int).toNat * 1) fun x152 =>
 Heap.le Hs117 H111 ∧
 ixa p_data x109 fun p154 =>
 st (p154.1, p154.2 + (x109 : Int).toNat * 1) (slv x152) (fun H160 =>
 Heap.le Hs117 H160 ∧
 ixa p_data (w .i64 (x109 - 1)) fun p161 =>
 st (p161.1, p161.2 + (w .i64 (x109 - 1) : Int).toNat * 1) (slv x149) (fun H166 =>
 J113 () H166) H160) H111)))
 (K H111)))))
 (jn (α := Int × Int) (fun x168 H169 =>
 lp (α := Int × Int) (x168.1, x168.2) H169 (fun x172 J173 H174 =>
 ift (decide ((x172.1 : Int) < x172.2))
 (dr H174 fun Hs176 =>
 ixa p_data (w .i64 ((w .i64 ((w .i64 ((w .i64 (sShr .u64 (w .u64 (w .i64 (p_a + p_b))) 1)) + p_m)) - 1)) - (w .i64 (sShr .u64 (w .u64 (w .i64 (x172.1 + x172.2))) 1)))) fun p178 =>
 ldL Hs176 (p178.1, p178.2 + (w .i64 ((w .i64 ((w .i64 ((w .i64 (sShr .u64 (w .u64 (w .i64 (p_a + p_b))) 1)) + p_m)) - 1)) - (w .i64 (sShr .u64 (w .u64 (w .i64 (x172.1 + x172.2))) 1))) : Int).toNat * 1) fun x183 =>
 ixa p_data (w .i64 (sShr .u64 (w .u64 (w .i64 (x172.1 + x172.2))) 1)) fun p185 =>
 ldL Hs176 (p185.1, p185.2 + (w .i64 (sShr .u64 (w .u64 (w .i64 (x172.1 + x172.2))) 1) : Int).toNat * 1) fun x190 =>
 callU Tryd.prog C p_cmp [slv x183, slv x190] H174 (fun v H194 => ∃ (r193 : Int), v = .int .i64 r193 ∧
 Heap.le Hs176 H194 ∧
 ift (!(decide ((r193 : Int) < 0)))
 (J173 ((w .i64 ((w .i64 (sShr .u64 (w .u64 (w .i64 (x172.1 + x172.2))) 1)) + 1)), x172.2) H194)
 (J173 (x172.1, (w .i64 (sShr .u64 (w .u64 (w .i64 (x172.1 + x172.2))) 1))) H194)))
 (jn (α := Unit) (fun x197 H198 =>
 jn (α := Unit) (fun x204 H205 =>
 ift ((decide (((w .i64 (sShr .u64 (w .u64 (w .i64 (p_a + p_b))) 1)) : Int) < (w .i64 ((w .i64 ((w .i64 (sShr .u64 (w .u64 (w .i64 (p_a + p_b))) 1)) + p_m)) - x172.1)))) && (decide (((w .i64 ((w .i64 ((w .i64 (sShr .u64 (w .u64 (w .i64 (p_a + p_b))) 1)) + p_m)) - x172.1)) : Int) < p_b)))
 (c_slices_symMergeCmpFunc_api_Value C p_data (w .i64 (sShr .u64 (w .u64 (w .i64 (p_a + p_b))) 1)) (w .i64 ((w .i64 ((w .i64 (sShr .u64 (w .u64 (w .i64 (p_a + p_b))) 1)) + p_m)) - x172.1)) p_b p_cmp (fun H212 =>
 K H212) H205)
 (K H205))
 (fun J203 => ift ((decide ((p_a : Int) < x172.1)) && (decide ((x172.1 : Int) < (w .i64 (sShr .u64 (w .u64 (w .i64 (p_a + p_b))) 1)))))
 (c_slices_symMergeCmpFunc_api_Value C p_data p_a x172.1 (w .i64 (sShr .u64 (w .u64 (w .i64 (p_a + p_b))) 1)) p_cmp (fun H209 =>
 J203 () H209) H198)
 (J203 () H198)))
 (fun J196 => ift ((decide ((x172.1 : Int) < p_m)) && (decide ((p_m : Int) < (w .i64 ((w .i64 ((w .i64 (sShr .u64 (w .u64 (w .i64 (p_a + p_b))) 1)) + p_m)) - x172.1)))))
 (c_slices_rotateCmpFunc_api_Value C p_data x172.1 p_m (w .i64 ((w .i64 ((w .i64 (sShr .u64 (w .u64 (w .i64 (p_a + p_b))) 1)) + p_m)) - x172.1)) p_cmp (fun H202 =>
 J196 () H202) H174)
 (J196 () H174)))))
 (fun J167 => ift (decide ((p_m : Int) > (w .i64 (sShr .u64 (w .u64 (w .i64 (p_a + p_b))) 1))))
 (J167 ((w .i64 ((w .i64 ((w .i64 (sShr .u64 (w .u64 (w .i64 (p_a + p_b))) 1)) + p_m)) - p_b)), (w .i64 (sShr .u64 (w .u64 (w .i64 (p_a + p_b))) 1))) H)
 (J167 (p_a, p_m) H))))

theorem ad_slices_symMergeCmpFunc_api_Value (C : Ctx) (p_data : Sl) (p_a : Int) (p_m : Int) (p_b : Int) (p_cmp : Value) (K : Heap → Prop) (H : Heap) (h : sh_slices_symMergeCmpFunc_api_Value C p_data p_a p_m p_b p_cmp K H) : c_slices_symMergeCmpFunc_api_Value C p_data p_a p_m p_b p_cmp K H := by
  refine Spec.enter Tryd.func68 rfl Tryd.ntmps68 rfl ?_
  refine GC.sub [(0, slv p_data), (1, .int .i64 p_a), (2, .int .i64 p_m), (3, .int .i64 p_b), (4, p_cmp)] ⟨rfl, rfl, rfl, rfl, rfl, trivial⟩ ?_
  refine GC.seq ?_
  refine GC.seq ?_
  refine GC.region ?_
  refine GL.val trivial rfl (OV.move (v := .int .i64 p_m) rfl) ?_
  refine GL.val trivial rfl (OV.move (v := .int .i64 p_a) rfl) ?_
  refine GL.val trivial rfl (OV.ibin (v := .int .i64 (w .i64 (p_m - p_a))) rfl rfl rfl) ?_
  refine GL.val trivial rfl (OV.ibin (v := .bool (((w .i64 (p_m - p_a)) : Int) == 1)) rfl rfl rfl) ?_
  refine GL.nil ?_
  refine GC.cond (b := ((w .i64 (p_m - p_a)) : Int) == 1) rfl (fun hc1 => ?_) (fun hc1 => ?_)
  · replace h := And.left h hc1
    refine GC.seq ?_
    refine GC.region ?_
    refine GL.val trivial rfl (OV.move (v := .int .i64 p_m) rfl) ?_
    refine GL.val trivial rfl (OV.assign (v := .int .i64 p_m) rfl) ?_
    refine GL.nil ?_
    refine GC.seq ?_
    refine GC.region ?_
    refine GL.val trivial rfl (OV.move (v := .int .i64 p_b) rfl) ?_
    refine GL.val trivial rfl (OV.assign (v := .int .i64 p_b) rfl) ?_
    refine GL.nil ?_
    refine GC.seq ?_
    refine GC.block ?_
    refine GC.loop (α := Int × Int) h (fun x2 => [(10, .int .i64 x2.1), (11, .int .i64 x2.2), (0, slv p_data), (1, .int .i64 p_a), (4, p_cmp)]) ⟨rfl, rfl, rfl, rfl, rfl, trivial⟩ ?_
    intro x2 H4 J3 h
    refine GC.seq ?_
    refine GC.seq ?_
    refine GC.region ?_
    refine GL.val trivial rfl (OV.move (v := .int .i64 x2.1) rfl) ?_
    refine GL.val trivial rfl (OV.move (v := .int .i64 x2.2) rfl) ?_
    refine GL.val trivial rfl (OV.ibin (v := .bool (decide ((x2.1 : Int) < x2.2))) rfl rfl rfl) ?_
    refine GL.nil ?_
    refine GC.cond (b := decide ((x2.1 : Int) < x2.2)) rfl (fun hc5 => ?_) (fun hc5 => ?_)
    · replace h := And.left h hc5
      refine GC.skip ?_
      refine GC.block ?_
      refine GC.seq ?_
      refine GC.region ?_
      refine GL.val trivial rfl (OV.move (v := .int .i64 x2.1) rfl) ?_
      refine GL.val trivial rfl (OV.move (v := .int .i64 x2.2) rfl) ?_
      refine GL.val trivial rfl (OV.ibin (v := .int .i64 (w .i64 (x2.1 + x2.2))) rfl rfl rfl) ?_
      refine GL.val trivial rfl (OV.convInt rfl rfl rfl) ?_
      refine GL.val trivial rfl (OV.shr rfl rfl (by decide)) ?_
      refine GL.val trivial rfl (OV.convInt rfl rfl rfl) ?_
      refine GL.val trivial rfl (OV.assign (v := .int .i64 (w .i64 (sShr .u64 (w .u64 (w .i64 (x2.1 + x2.2))) 1))) rfl) ?_
      refine GL.nil ?_
      refine GC.seq ?_
      obtain ⟨Hs6, hle7, h⟩ := h
      refine GC.any (Hs := Hs6) (by kernel_rfl) hle7 ?_
      refine GA.take 0 rfl (by kernel_rfl) (by kernel_rfl) (by kernel_rfl) (fun _ _ _ h => False.elim h) trivial rfl (OV.move (v := p_cmp) rfl) ?_
      refine GA.take 1 rfl (by kernel_rfl) (by kernel_rfl) (by kernel_rfl) (fun _ _ _ h => False.elim h) trivial rfl (OV.move (v := slv p_data) rfl) ?_
      refine GA.take 2 rfl (by kernel_rfl) (by kernel_rfl) (by kernel_rfl) (fun _ _ _ h => False.elim h) trivial rfl (OV.move (v := .int .i64 (w .i64 (sShr .u64 (w .u64 (w .i64 (x2.1 + x2.2))) 1))) rfl) ?_
      obtain ⟨p8, ha9, hb10, hc11, hd12, h⟩ := h
      refine GA.take 3 rfl (by kernel_rfl) (by kernel_rfl) (by kernel_rfl) (fun _ _ _ h => False.elim h) trivial rfl (OV.indexAddr (s := p_data) rfl rfl rfl rfl ha9 hb10 hc11 hd12) ?_
      obtain ⟨x13, hr14, h⟩ := h
      refine GA.take 4 rfl (by kernel_rfl) (by kernel_rfl) (by kernel_rfl) (fun _ _ _ h => False.elim h) trivial rfl (OV.load (p := (p8.1, p8.2 + (w .i64 (sShr .u64 (w .u64 (w .i64 (x2.1 + x2.2))) 1) : Int).toNat * 1)) rfl rfl hr14) ?_
      refine GA.take 5 rfl (by kernel_rfl) (by kernel_rfl) (by kernel_rfl) (fun _ _ _ h => False.elim h) trivial rfl (OV.move (v := slv p_data) rfl) ?_
      refine GA.take 6 rfl (by kernel_rfl) (by kernel_rfl) (by kernel_rfl) (fun _ _ _ h => False.elim h) trivial rfl (OV.move (v := .int .i64 p_a) rfl) ?_
      obtain ⟨p15, ha16, hb17, hc18, hd19, h⟩ := h
      refine GA.take 7 rfl (by kernel_rfl) (by kernel_rfl) (by kernel_rfl) (fun _ _ _ h => False.elim h) trivial rfl (OV.indexAddr (s := p_data) rfl rfl rfl rfl ha16 hb17 hc18 hd19) ?_
      obtain ⟨x20, hr21, h⟩ := h
      refine GA.take 8 rfl (by kernel_rfl) (by kernel_rfl) (by kernel_rfl) (fun _ _ _ h => False.elim h) trivial rfl (OV.load (p := (p15.1, p15.2 + (p_a : Int).toNat * 1)) rfl rfl hr21) ?_
      refine GA.eff 9 rfl (by kernel_rfl) ?_
      refine GL.callU (xv := p_cmp) (vs := [slv x13, slv x20]) h trivial rfl rfl rfl ?_
      rintro _ H24 ⟨r23, rfl, h⟩
      obtain ⟨hle22, h⟩ := h
      refine GA.back hle22 ?_
      refine GA.take 10 rfl (by kernel_rfl) (by kernel_rfl) (by kernel_rfl) (fun _ _ _ h => False.elim h) trivial rfl (OV.ibin (v := .bool (decide ((r23 : Int) < 0))) rfl rfl rfl) ?_
      refine GA.done (by kernel_rfl) ?_
      refine GL.nil ?_
      refine GC.cond (b := decide ((r23 : Int) < 0)) rfl (fun hc25 => ?_) (fun hc25 => ?_)
      · replace h := And.left h hc25
        refine GC.region ?_
        refine GL.val trivial rfl (OV.move (v := .int .i64 (w .i64 (sShr .u64 (w .u64 (w .i64 (x2.1 + x2.2))) 1))) rfl) ?_
        refine GL.val trivial rfl (OV.ibin (v := .int .i64 (w .i64 ((w .i64 (sShr .u64 (w .u64 (w .i64 (x2.1 + x2.2))) 1)) + 1))) rfl rfl rfl) ?_
        refine GL.val trivial rfl (OV.assign (v := .int .i64 (w .i64 ((w .i64 (sShr .u64 (w .u64 (w .i64 (x2.1 + x2.2))) 1)) + 1))) rfl) ?_
        exact GL.jump (fun _ _ h => h) ((w .i64 ((w .i64 (sShr .u64 (w .u64 (w .i64 (x2.1 + x2.2))) 1)) + 1)), x2.2) h ⟨rfl, rfl, rfl, rfl, rfl, trivial⟩
      · replace h := And.right h hc25
        refine GC.region ?_
        refine GL.val trivial rfl (OV.move (v := .int .i64 (w .i64 (sShr .u64 (w .u64 (w .i64 (x2.1 + x2.2))) 1))) rfl) ?_
        refine GL.val trivial rfl (OV.assign (v := .int .i64 (w .i64 (sShr .u64 (w .u64 (w .i64 (x2.1 + x2.2))) 1))) rfl) ?_
        exact GL.jump (fun _ _ h => h) (x2.1, (w .i64 (sShr .u64 (w .u64 (w .i64 (x2.1 + x2.2))) 1))) h ⟨rfl, rfl, rfl, rfl, rfl, trivial⟩
    · replace h := And.right h hc5
      refine GC.exit_to (fun _ _ h => h) ?_
      refine GC.seq ?_
      refine GC.seq ?_
      refine GC.region ?_
      refine GL.val trivial rfl (OV.move (v := .int .i64 p_a) rfl) ?_
      refine GL.val trivial rfl (OV.assign (v := .int .i64 p_a) rfl) ?_
      refine GL.nil ?_
      refine GC.block ?_
      refine GC.loop (α := Int) h (fun x26 => [(13, .int .i64 x26), (0, slv p_data), (10, .int .i64 x2.1)]) ⟨rfl, rfl, rfl, trivial⟩ ?_
      intro x26 H28 J27 h
      refine GC.seq ?_
      refine GC.seq ?_
      refine GC.region ?_
      refine GL.val trivial rfl (OV.move (v := .int .i64 x26) rfl) ?_
      refine GL.val trivial rfl (OV.move (v := .int .i64 x2.1) rfl) ?_
      refine GL.val trivial rfl (OV.ibin (v := .int .i64 (w .i64 (x2.1 - 1))) rfl rfl rfl) ?_
      refine GL.val trivial rfl (OV.ibin (v := .bool (decide ((x26 : Int) < (w .i64 (x2.1 - 1))))) rfl rfl rfl) ?_
      refine GL.nil ?_
      refine GC.cond (b := decide ((x26 : Int) < (w .i64 (x2.1 - 1)))) rfl (fun hc29 => ?_) (fun hc29 => ?_)
      · replace h := And.left h hc29
        refine GC.skip ?_
        refine GC.seq ?_
        refine GC.block ?_
        obtain ⟨J30, h, hR33⟩ := h
        refine GC.meet (α := Unit) J30 (fun _ => [(0, slv p_data), (10, .int .i64 x2.1), (13, .int .i64 x26)]) ?_ ?_
        · skip
          obtain ⟨Hs34, hle35, h⟩ := h
          refine GC.tail (Hs := Hs34) 17 (by kernel_rfl) hle35 (by kernel_rfl) ?_
          refine GT.take 0 rfl (by kernel_rfl) (by kernel_rfl) (by kernel_rfl) rfl (fun _ _ _ h => False.elim h) trivial rfl (OV.move (v := slv p_data) rfl) ?_
          refine GT.take 1 rfl (by kernel_rfl) (by kernel_rfl) (by kernel_rfl) rfl (fun _ _ _ h => False.elim h) trivial rfl (OV.move (v := .int .i64 x26) rfl) ?_
          refine GT.take 2 rfl (by kernel_rfl) (by kernel_rfl) (by kernel_rfl) rfl (fun _ _ _ h => False.elim h) trivial rfl (OV.move (v := slv p_data) rfl) ?_
          refine GT.take 3 rfl (by kernel_rfl) (by kernel_rfl) (by kernel_rfl) rfl (fun _ _ _ h => False.elim h) trivial rfl (OV.move (v := .int .i64 x26) rfl) ?_
          refine GT.take 4 rfl (by kernel_rfl) (by kernel_rfl) (by kernel_rfl) rfl (fun _ _ _ h => False.elim h) trivial rfl (OV.ibin (v := .int .i64 (w .i64 (x26 + 1))) rfl rfl rfl) ?_
          refine GT.take 5 rfl (by kernel_rfl) (by kernel_rfl) (by kernel_rfl) rfl (fun _ _ _ h => False.elim h) trivial rfl (OV.move (v := slv p_data) rfl) ?_
          refine GT.take 6 rfl (by kernel_rfl) (by kernel_rfl) (by kernel_rfl) rfl (fun _ _ _ h => False.elim h) trivial rfl (OV.move (v := .int .i64 x26) rfl) ?_
          refine GT.take 7 rfl (by kernel_rfl) (by kernel_rfl) (by kernel_rfl) rfl (fun _ _ _ h => False.elim h) trivial rfl (OV.ibin (v := .int .i64 (w .i64 (x26 + 1))) rfl rfl rfl) ?_
          obtain ⟨p36, ha37, hb38, hc39, hd40, h⟩ := h
          refine GT.take 8 rfl (by kernel_rfl) (by kernel_rfl) (by kernel_rfl) rfl (fun _ _ _ h => False.elim h) trivial rfl (OV.indexAddr (s := p_data) rfl rfl rfl rfl ha37 hb38 hc39 hd40) ?_
          refine GT.take 10 rfl (by kernel_rfl) (by kernel_rfl) (by kernel_rfl) rfl (fun _ _ _ h => False.elim h) trivial rfl (OV.move (v := slv p_data) rfl) ?_
          refine GT.take 11 rfl (by kernel_rfl) (by kernel_rfl) (by kernel_rfl) rfl (fun _ _ _ h => False.elim h) trivial rfl (OV.move (v := .int .i64 x26) rfl) ?_
          obtain ⟨p41, ha42, hb43, hc44, hd45, h⟩ := h
          refine GT.take 12 rfl (by kernel_rfl) (by kernel_rfl) (by kernel_rfl) rfl (fun _ _ _ h => False.elim h) trivial rfl (OV.indexAddr (s := p_data) rfl rfl rfl rfl ha42 hb43 hc44 hd45) ?_
          refine GT.effs [9, 13] (by kernel_rfl) (by simp) (List.forall_mem_cons.2 ⟨⟨_, rfl, rfl, ?_⟩, List.forall_mem_cons.2 ⟨⟨_, rfl, rfl, ?_⟩, fun _ h => by cases h⟩⟩)
          · replace h := h.1
            obtain ⟨x47, hr48, h⟩ := h
            refine GL.val trivial rfl (OV.load (p := (p36.1, p36.2 + (w .i64 (x26 + 1) : Int).toNat * 1)) rfl rfl hr48) ?_
            obtain ⟨hle46, h⟩ := h
            refine GT.back hle46 ?_
            refine GT.eff 13 rfl (by kernel_rfl) rfl ?_
            obtain ⟨x50, hr51, h⟩ := h
            refine GL.val trivial rfl (OV.load (p := (p41.1, p41.2 + (x26 : Int).toNat * 1)) rfl rfl hr51) ?_
            obtain ⟨hle49, h⟩ := h
            refine GT.back hle49 ?_
            obtain ⟨p52, ha53, hb54, hc55, hd56, h⟩ := h
            refine GT.take 14 rfl (by kernel_rfl) (by kernel_rfl) (by kernel_rfl) rfl (fun _ _ _ h => False.elim h) trivial rfl (OV.indexAddr (s := p_data) rfl rfl rfl rfl ha53 hb54 hc55 hd56) ?_
            refine GT.eff 15 rfl (by kernel_rfl) rfl ?_
            refine GL.store (p := (p52.1, p52.2 + (x26 : Int).toNat * 1)) (v := slv x47) h trivial rfl rfl rfl rfl ?_
            intro H58 h
            obtain ⟨hle57, h⟩ := h
            refine GT.back hle57 ?_
            obtain ⟨p59, ha60, hb61, hc62, hd63, h⟩ := h
            refine GT.take 16 rfl (by kernel_rfl) (by kernel_rfl) (by kernel_rfl) rfl (fun _ _ _ h => False.elim h) trivial rfl (OV.indexAddr (s := p_data) rfl rfl rfl rfl ha60 hb61 hc62 hd63) ?_
            refine GT.done (by kernel_rfl) ?_
            show GL _ _ _ _ _ [_] _ _
            refine GL.store (p := (p59.1, p59.2 + (w .i64 (x26 + 1) : Int).toNat * 1)) (v := slv x50) h trivial rfl rfl rfl rfl ?_
            intro H64 h
            exact GL.jump (fun _ _ h => h) () h ⟨rfl, rfl, rfl, trivial⟩
          · replace h := h.2
            obtain ⟨x66, hr67, h⟩ := h
            refine GL.val trivial rfl (OV.load (p := (p41.1, p41.2 + (x26 : Int).toNat * 1)) rfl rfl hr67) ?_
            obtain ⟨hle65, h⟩ := h
            refine GT.back hle65 ?_
            refine GT.eff 9 rfl (by kernel_rfl) rfl ?_
            obtain ⟨x69, hr70, h⟩ := h
            refine GL.val trivial rfl (OV.load (p := (p36.1, p36.2 + (w .i64 (x26 + 1) : Int).toNat * 1)) rfl rfl hr70) ?_
            obtain ⟨hle68, h⟩ := h
            refine GT.back hle68 ?_
            obtain ⟨p71, ha72, hb73, hc74, hd75, h⟩ := h
            refine GT.take 14 rfl (by kernel_rfl) (by kernel_rfl) (by kernel_rfl) rfl (fun _ _ _ h => False.elim h) trivial rfl (OV.indexAddr (s := p_data) rfl rfl rfl rfl ha72 hb73 hc74 hd75) ?_
            refine GT.eff 15 rfl (by kernel_rfl) rfl ?_
            refine GL.store (p := (p71.1, p71.2 + (x26 : Int).toNat * 1)) (v := slv x69) h trivial rfl rfl rfl rfl ?_
            intro H77 h
            obtain ⟨hle76, h⟩ := h
            refine GT.back hle76 ?_
            obtain ⟨p78, ha79, hb80, hc81, hd82, h⟩ := h
            refine GT.take 16 rfl (by kernel_rfl) (by kernel_rfl) (by kernel_rfl) rfl (fun _ _ _ h => False.elim h) trivial rfl (OV.indexAddr (s := p_data) rfl rfl rfl rfl ha79 hb80 hc81 hd82) ?_
            refine GT.done (by kernel_rfl) ?_
            show GL _ _ _ _ _ [_] _ _
            refine GL.store (p := (p78.1, p78.2 + (w .i64 (x26 + 1) : Int).toNat * 1)) (v := slv x66) h trivial rfl rfl rfl rfl ?_
            intro H83 h
            exact GL.jump (fun _ _ h => h) () h ⟨rfl, rfl, rfl, trivial⟩
        · intro x31 H32 h
          replace h := hR33 x31 H32 h
          refine GL.nil_to (fun _ _ h => h) ?_
          refine GC.region ?_
          refine GL.val trivial rfl (OV.move (v := .int .i64 x26) rfl) ?_
          refine GL.val trivial rfl (OV.ibin (v := .int .i64 (w .i64 (x26 + 1))) rfl rfl rfl) ?_
          refine GL.val trivial rfl (OV.assign (v := .int .i64 (w .i64 (x26 + 1))) rfl) ?_
          exact GL.jump (fun _ _ h => h) (w .i64 (x26 + 1)) h ⟨rfl, rfl, rfl, trivial⟩
      · replace h := And.right h hc29
        refine GC.exit_to (fun _ _ h => h) ?_
        exact GC.ret (fun _ _ hf hs => post_tmp0 rfl hf hs ⟨rfl, h⟩)
  · replace h := And.right h hc1
    refine GC.skip ?_
    refine GC.seq ?_
    refine GC.seq ?_
    refine GC.region ?_
    refine GL.val trivial rfl (OV.move (v := .int .i64 p_b) rfl) ?_
    refine GL.val trivial rfl (OV.move (v := .int .i64 p_m) rfl) ?_
    refine GL.val trivial rfl (OV.ibin (v := .int .i64 (w .i64 (p_b - p_m))) rfl rfl rfl) ?_
    refine GL.val trivial rfl (OV.ibin (v := .bool (((w .i64 (p_b - p_m)) : Int) == 1)) rfl rfl rfl) ?_
    refine GL.nil ?_
    refine GC.cond (b := ((w .i64 (p_b - p_m)) : Int) == 1) rfl (fun hc84 => ?_) (fun hc84 => ?_)
    · replace h := And.left h hc84
      refine GC.seq ?_
      refine GC.region ?_
      refine GL.val trivial rfl (OV.move (v := .int .i64 p_a) rfl) ?_
      refine GL.val trivial rfl (OV.assign (v := .int .i64 p_a) rfl) ?_
      refine GL.nil ?_
      refine GC.seq ?_
      refine GC.region ?_
      refine GL.val trivial rfl (OV.move (v := .int .i64 p_m) rfl) ?_
      refine GL.val trivial rfl (OV.assign (v := .int .i64 p_m) rfl) ?_
      refine GL.nil ?_
      refine GC.seq ?_
      refine GC.block ?_
      refine GC.loop (α := Int × Int) h (fun x85 => [(14, .int .i64 x85.1), (15, .int .i64 x85.2), (0, slv p_data), (2, .int .i64 p_m), (4, p_cmp)]) ⟨rfl, rfl, rfl, rfl, rfl, trivial⟩ ?_
      intro x85 H87 J86 h
      refine GC.seq ?_
      refine GC.seq ?_
      refine GC.region ?_
      refine GL.val trivial rfl (OV.move (v := .int .i64 x85.1) rfl) ?_
      refine GL.val trivial rfl (OV.move (v := .int .i64 x85.2) rfl) ?_
      refine GL.val trivial rfl (OV.ibin (v := .bool (decide ((x85.1 : Int) < x85.2))) rfl rfl rfl) ?_
      refine GL.nil ?_
      refine GC.cond (b := decide ((x85.1 : Int) < x85.2)) rfl (fun hc88 => ?_) (fun hc88 => ?_)
      · replace h := And.left h hc88
        refine GC.skip ?_
        refine GC.block ?_
        refine GC.seq ?_
        refine GC.region ?_
        refine GL.val trivial rfl (OV.move (v := .int .i64 x85.1) rfl) ?_
        refine GL.val trivial rfl (OV.move (v := .int .i64 x85.2) rfl) ?_
        refine GL.val trivial rfl (OV.ibin (v := .int .i64 (w .i64 (x85.1 + x85.2))) rfl rfl rfl) ?_
        refine GL.val trivial rfl (OV.convInt rfl rfl rfl) ?_
        refine GL.val trivial rfl (OV.shr rfl rfl (by decide)) ?_
        refine GL.val trivial rfl (OV.convInt rfl rfl rfl) ?_
        refine GL.val trivial rfl (OV.assign (v := .int .i64 (w .i64 (sShr .u64 (w .u64 (w .i64 (x85.1 + x85.2))) 1))) rfl) ?_
        refine GL.nil ?_
        refine GC.seq ?_
        obtain ⟨Hs89, hle90, h⟩ := h
        refine GC.any (Hs := Hs89) (by kernel_rfl) hle90 ?_
        refine GA.take 0 rfl (by kernel_rfl) (by kernel_rfl) (by kernel_rfl) (fun _ _ _ h => False.elim h) trivial rfl (OV.move (v := p_cmp) rfl) ?_
        refine GA.take 1 rfl (by kernel_rfl) (by kernel_rfl) (by kernel_rfl) (fun _ _ _ h => False.elim h) trivial rfl (OV.move (v := slv p_data) rfl) ?_
        refine GA.take 2 rfl (by kernel_rfl) (by kernel_rfl) (by kernel_rfl) (fun _ _ _ h => False.elim h) trivial rfl (OV.move (v := .int .i64 p_m) rfl) ?_
        obtain ⟨p91, ha92, hb93, hc94, hd95, h⟩ := h
        refine GA.take 3 rfl (by kernel_rfl) (by kernel_rfl) (by kernel_rfl) (fun _ _ _ h => False.elim h) trivial rfl (OV.indexAddr (s := p_data) rfl rfl rfl rfl ha92 hb93 hc94 hd95) ?_
        obtain ⟨x96, hr97, h⟩ := h
        refine GA.take 4 rfl (by kernel_rfl) (by kernel_rfl) (by kernel_rfl) (fun _ _ _ h => False.elim h) trivial rfl (OV.load (p := (p91.1, p91.2 + (p_m : Int).toNat * 1)) rfl rfl hr97) ?_
        refine GA.take 5 rfl (by kernel_rfl) (by kernel_rfl) (by kernel_rfl) (fun _ _ _ h => False.elim h) trivial rfl (OV.move (v := slv p_data) rfl) ?_
        refine GA.take 6 rfl (by kernel_rfl) (by kernel_rfl) (by kernel_rfl) (fun _ _ _ h => False.elim h) trivial rfl (OV.move (v := .int .i64 (w .i64 (sShr .u64 (w .u64 (w .i64 (x85.1 + x85.2))) 1))) rfl) ?_
        obtain ⟨p98, ha99, hb100, hc101, hd102, h⟩ := h
        refine GA.take 7 rfl (by kernel_rfl) (by kernel_rfl) (by kernel_rfl) (fun _ _ _ h => False.elim h) trivial rfl (OV.indexAddr (s := p_data) rfl rfl rfl rfl ha99 hb100 hc101 hd102) ?_
        obtain ⟨x103, hr104, h⟩ := h
        refine GA.take 8 rfl (by kernel_rfl) (by kernel_rfl) (by kernel_rfl) (fun _ _ _ h => False.elim h) trivial rfl (OV.load (p := (p98.1, p98.2 + (w .i64 (sShr .u64 (w .u64 (w .i64 (x85.1 + x85.2))) 1) : Int).toNat * 1)) rfl rfl hr104) ?_
        refine GA.eff 9 rfl (by kernel_rfl) ?_
        refine GL.callU (xv := p_cmp) (vs := [slv x96, slv x103]) h trivial rfl rfl rfl ?_
        rintro _ H107 ⟨r106, rfl, h⟩
        obtain ⟨hle105, h⟩ := h
        refine GA.back hle105 ?_
        refine GA.take 10 rfl (by kernel_rfl) (by kernel_rfl) (by kernel_rfl) (fun _ _ _ h => False.elim h) trivial rfl (OV.ibin (v := .bool (decide ((r106 : Int) < 0))) rfl rfl rfl) ?_
        refine GA.take 11 rfl (by kernel_rfl) (by kernel_rfl) (by kernel_rfl) (fun _ _ _ h => False.elim h) trivial rfl (OV.not rfl) ?_
        refine GA.done (by kernel_rfl) ?_
        refine GL.nil ?_
        refine GC.cond (b := !(decide ((r106 : Int) < 0))) rfl (fun hc108 => ?_) (fun hc108 => ?_)
        · replace h := And.left h hc108
          refine GC.region ?_
          refine GL.val trivial rfl (OV.move (v := .int .i64 (w .i64 (sShr .u64 (w .u64 (w .i64 (x85.1 + x85.2))) 1))) rfl) ?_
          refine GL.val trivial rfl (OV.ibin (v := .int .i64 (w .i64 ((w .i64 (sShr .u64 (w .u64 (w .i64 (x85.1 + x85.2))) 1)) + 1))) rfl rfl rfl) ?_
          refine GL.val trivial rfl (OV.assign (v := .int .i64 (w .i64 ((w .i64 (sShr .u64 (w .u64 (w .i64 (x85.1 + x85.2))) 1)) + 1))) rfl) ?_
          exact GL.jump (fun _ _ h => h) ((w .i64 ((w .i64 (sShr .u64 (w .u64 (w .i64 (x85.1 + x85.2))) 1)) + 1)), x85.2) h ⟨rfl, rfl, rfl, rfl, rfl, trivial⟩
        · replace h := And.right h hc108
          refine GC.region ?_
          refine GL.val trivial rfl (OV.move (v := .int .i64 (w .i64 (sShr .u64 (w .u64 (w .i64 (x85.1 + x85.2))) 1))) rfl) ?_
          refine GL.val trivial rfl (OV.assign (v := .int .i64 (w .i64 (sShr .u64 (w .u64 (w .i64 (x85.1 + x85.2))) 1))) rfl) ?_
          exact GL.jump (fun _ _ h => h) (x85.1, (w .i64 (sShr .u64 (w .u64 (w .i64 (x85.1 + x85.2))) 1))) h ⟨rfl, rfl, rfl, rfl, rfl, trivial⟩
      · replace h := And.right h hc88
        refine GC.exit_to (fun _ _ h => h) ?_
        refine GC.seq ?_
        refine GC.seq ?_
        refine GC.region ?_
        refine GL.val trivial rfl (OV.move (v := .int .i64 p_m) rfl) ?_
        refine GL.val trivial rfl (OV.assign (v := .int .i64 p_m) rfl) ?_
        refine GL.nil ?_
        refine GC.block ?_
        refine GC.loop (α := Int) h (fun x109 => [(17, .int .i64 x109), (0, slv p_data), (14, .int .i64 x85.1)]) ⟨rfl, rfl, rfl, trivial⟩ ?_
        intro x109 H111 J110 h
        refine GC.seq ?_
        refine GC.seq ?_
        refine GC.region ?_
        refine GL.val trivial rfl (OV.move (v := .int .i64 x109) rfl) ?_
        refine GL.val trivial rfl (OV.move (v := .int .i64 x85.1) rfl) ?_
        refine GL.val trivial rfl (OV.ibin (v := .bool (decide ((x109 : Int) > x85.1))) rfl rfl rfl) ?_
        refine GL.nil ?_
        refine GC.cond (b := decide ((x109 : Int) > x85.1)) rfl (fun hc112 => ?_) (fun hc112 => ?_)
        · replace h := And.left h hc112
          refine GC.skip ?_
          refine GC.seq ?_
          refine GC.block ?_
          obtain ⟨J113, h, hR116⟩ := h
          refine GC.meet (α := Unit) J113 (fun _ => [(0, slv p_data), (14, .int .i64 x85.1), (17, .int .i64 x109)]) ?_ ?_
          · skip
            obtain ⟨Hs117, hle118, h⟩ := h
            refine GC.tail (Hs := Hs117) 17 (by kernel_rfl) hle118 (by kernel_rfl) ?_
            refine GT.take 0 rfl (by kernel_rfl) (by kernel_rfl) (by kernel_rfl) rfl (fun _ _ _ h => False.elim h) trivial rfl (OV.move (v := slv p_data) rfl) ?_
            refine GT.take 1 rfl (by kernel_rfl) (by kernel_rfl) (by kernel_rfl) rfl (fun _ _ _ h => False.elim h) trivial rfl (OV.move (v := .int .i64 x109) rfl) ?_
            refine GT.take 2 rfl (by kernel_rfl) (by kernel_rfl) (by kernel_rfl) rfl (fun _ _ _ h => False.elim h) trivial rfl (OV.move (v := slv p_data) rfl) ?_
            refine GT.take 3 rfl (by kernel_rfl) (by kernel_rfl) (by kernel_rfl) rfl (fun _ _ _ h => False.elim h) trivial rfl (OV.move (v := .int .i64 x109) rfl) ?_
            refine GT.take 4 rfl (by kernel_rfl) (by kernel_rfl) (by kernel_rfl) rfl (fun _ _ _ h => False.elim h) trivial rfl (OV.ibin (v := .int .i64 (w .i64 (x109 - 1))) rfl rfl rfl) ?_
            refine GT.take 5 rfl (by kernel_rfl) (by kernel_rfl) (by kernel_rfl) rfl (fun _ _ _ h => False.elim h) trivial rfl (OV.move (v := slv p_data) rfl) ?_
            refine GT.take 6 rfl (by kernel_rfl) (by kernel_rfl) (by kernel_rfl) rfl (fun _ _ _ h => False.elim h) trivial rfl (OV.move (v := .int .i64 x109) rfl) ?_
            refine GT.take 7 rfl (by kernel_rfl) (by kernel_rfl) (by kernel_rfl) rfl (fun _ _ _ h => False.elim h) trivial rfl (OV.ibin (v := .int .i64 (w .i64 (x109 - 1))) rfl rfl rfl) ?_
            obtain ⟨p119, ha120, hb121, hc122, hd123, h⟩ := h
            refine GT.take 8 rfl (by kernel_rfl) (by kernel_rfl) (by kernel_rfl) rfl (fun _ _ _ h => False.elim h) trivial rfl (OV.indexAddr (s := p_data) rfl rfl rfl rfl ha120 hb121 hc122 hd123) ?_
            refine GT.take 10 rfl (by kernel_rfl) (by kernel_rfl) (by kernel_rfl) rfl (fun _ _ _ h => False.elim h) trivial rfl (OV.move (v := slv p_data) rfl) ?_
            refine GT.take 11 rfl (by kernel_rfl) (by kernel_rfl) (by kernel_rfl) rfl (fun _ _ _ h => False.elim h) trivial rfl (OV.move (v := .int .i64 x109) rfl) ?_
            obtain ⟨p124, ha125, hb126, hc127, hd128, h⟩ := h
            refine GT.take 12 rfl (by kernel_rfl) (by kernel_rfl) (by kernel_rfl) rfl (fun _ _ _ h => False.elim h) trivial rfl (OV.indexAddr (s := p_data) rfl rfl rfl rfl ha125 hb126 hc127 hd128) ?_
            refine GT.effs [9, 13] (by kernel_rfl) (by simp) (List.forall_mem_cons.2 ⟨⟨_, rfl, rfl, ?_⟩, List.forall_mem_cons.2 ⟨⟨_, rfl, rfl, ?_⟩, fun _ h => by cases h⟩⟩)
            · replace h := h.1
              obtain ⟨x130, hr131, h⟩ := h
              refine GL.val trivial rfl (OV.load (p := (p119.1, p119.2 + (w .i64 (x109 - 1) : Int).toNat * 1)) rfl rfl hr131) ?_
              obtain ⟨hle129, h⟩ := h
              refine GT.back hle129 ?_
              refine GT.eff 13 rfl (by kernel_rfl) rfl ?_
              obtain ⟨x133, hr134, h⟩ := h
              refine GL.val trivial rfl (OV.load (p := (p124.1, p124.2 + (x109 : Int).toNat * 1)) rfl rfl hr134) ?_
              obtain ⟨hle132, h⟩ := h
              refine GT.back hle132 ?_
              obtain ⟨p135, ha136, hb137, hc138, hd139, h⟩ := h
              refine GT.take 14 rfl (by kernel_rfl) (by kernel_rfl) (by kernel_rfl) rfl (fun _ _ _ h => False.elim h) trivial rfl (OV.indexAddr (s := p_data) rfl rfl rfl rfl ha136 hb137 hc138 hd139) ?_
              refine GT.eff 15 rfl (by kernel_rfl) rfl ?_
              refine GL.store (p := (p135.1, p135.2 + (x109 : Int).toNat * 1)) (v := slv x130) h trivial rfl rfl rfl rfl ?_
              intro H141 h
              obtain ⟨hle140, h⟩ := h
              refine GT.back hle140 ?_
              obtain ⟨p142, ha143, hb144, hc145, hd146, h⟩ := h
              refine GT.take 16 rfl (by kernel_rfl) (by kernel_rfl) (by kernel_rfl) rfl (fun _ _ _ h => False.elim h) trivial rfl (OV.indexAddr (s := p_data) rfl rfl rfl rfl ha143 hb144 hc145 hd146) ?_
              refine GT.done (by kernel_rfl) ?_
              show GL _ _ _ _ _ [_] _ _
              refine GL.store (p := (p142.1, p142.2 + (w .i64 (x109 - 1) : Int).toNat * 1)) (v := slv x133) h trivial rfl rfl rfl rfl ?_
              intro H147 h
              exact GL.jump (fun _ _ h => h) () h ⟨rfl, rfl, rfl, trivial⟩
            · replace h := h.2
              obtain ⟨x149, hr150, h⟩ := h
              refine GL.val trivial rfl (OV.load (p := (p124.1, p124.2 + (x109 : Int).toNat * 1)) rfl rfl hr150) ?_
              obtain ⟨hle148, h⟩ := h
              refine GT.back hle148 ?_
              refine GT.eff 9 rfl (by kernel_rfl) rfl ?_
              obtain ⟨x152, hr153, h⟩ := h
              refine GL.val trivial rfl (OV.load (p := (p119.1, p119.2 + (w .i64 (x109 - 1) : Int).toNat * 1)) rfl rfl hr153) ?_
              obtain ⟨hle151, h⟩ := h
              refine GT.back hle151 ?_
              obtain ⟨p154, ha155, hb156, hc157, hd158, h⟩ := h
              refine GT.take 14 rfl (by kernel_rfl) (by kernel_rfl) (by kernel_rfl) rfl (fun _ _ _ h => False.elim h) trivial rfl (OV.indexAddr (s := p_data) rfl rfl rfl rfl ha155 hb156 hc157 hd158) ?_
              refine GT.eff 15 rfl (by kernel_rfl) rfl ?_
              refine GL.store (p := (p154.1, p154.2 + (x109 : Int).toNat * 1)) (v := slv x152) h trivial rfl rfl rfl rfl ?_
              intro H160 h
              obtain ⟨hle159, h⟩ := h
              refine GT.back hle159 ?_
              obtain ⟨p161, ha162, hb163, hc164, hd165, h⟩ := h
              refine GT.take 16 rfl (by kernel_rfl) (by kernel_rfl) (by kernel_rfl) rfl (fun _ _ _ h => False.elim h) trivial rfl (OV.indexAddr (s := p_data) rfl rfl rfl rfl ha162 hb163 hc164 hd165) ?_
              refine GT.done (by kernel_rfl) ?_
              show GL _ _ _ _ _ [_] _ _
              refine GL.store (p := (p161.1, p161.2 + (w .i64 (x109 - 1) : Int).toNat * 1)) (v := slv x149) h trivial rfl rfl rfl rfl ?_
              intro H166 h
              exact GL.jump (fun _ _ h => h) () h ⟨rfl, rfl, rfl, trivial⟩
          · intro x114 H115 h
            replace h := hR116 x114 H115 h
            refine GL.nil_to (fun _ _ h => h) ?_
            refine GC.region ?_
            refine GL.val trivial rfl (OV.move (v := .int .i64 x109) rfl) ?_
            refine GL.val trivial rfl (OV.ibin (v := .int .i64 (w .i64 (x109 - 1))) rfl rfl rfl) ?_
            refine GL.val trivial rfl (OV.assign (v := .int .i64 (w .i64 (x109 - 1))) rfl) ?_
            exact GL.jump (fun _ _ h => h) (w .i64 (x109 - 1)) h ⟨rfl, rfl, rfl, trivial⟩
        · replace h := And.right h hc112
          refine GC.exit_to (fun _ _ h => h) ?_
          exact GC.ret (fun _ _ hf hs => post_tmp0 rfl hf hs ⟨rfl, h⟩)
    · replace h := And.right h hc84
      refine GC.skip ?_
      refine GC.seq ?_
      refine GC.region ?_
      refine GL.val trivial rfl (OV.move (v := .int .i64 p_a) rfl) ?_
      refine GL.val trivial rfl (OV.move (v := .int .i64 p_b) rfl) ?_
      refine GL.val trivial rfl (OV.ibin (v := .int .i64 (w .i64 (p_a + p_b))) rfl rfl rfl) ?_
      refine GL.val trivial rfl (OV.convInt rfl rfl rfl) ?_
      refine GL.val trivial rfl (OV.shr rfl rfl (by decide)) ?_
      refine GL.val trivial rfl (OV.convInt rfl rfl rfl) ?_
      refine GL.val trivial rfl (OV.assign (v := .int .i64 (w .i64 (sShr .u64 (w .u64 (w .i64 (p_a + p_b))) 1))) rfl) ?_
      refine GL.nil ?_
      refine GC.seq ?_
      refine GC.region ?_
      refine GL.val trivial rfl (OV.move (v := .int .i64 (w .i64 (sShr .u64 (w .u64 (w .i64 (p_a + p_b))) 1))) rfl) ?_
      refine GL.val trivial rfl (OV.move (v := .int .i64 p_m) rfl) ?_
      refine GL.val trivial rfl (OV.ibin (v := .int .i64 (w .i64 ((w .i64 (sShr .u64 (w .u64 (w .i64 (p_a + p_b))) 1)) + p_m))) rfl rfl rfl) ?_
      refine GL.val trivial rfl (OV.assign (v := .int .i64 (w .i64 ((w .i64 (sShr .u64 (w .u64 (w .i64 (p_a + p_b))) 1)) + p_m))) rfl) ?_
      refine GL.nil ?_
      refine GC.seq ?_
      refine GC.region ?_
      refine GL.val trivial rfl (OV.assign (v := .int .i64 0) rfl) ?_
      refine GL.val trivial rfl (OV.assign (v := .int .i64 0) rfl) ?_
      refine GL.nil ?_
      obtain ⟨J167, h, hR170⟩ := h
      refine GC.join (α := Int × Int) J167 (fun x168 => [(20, .int .i64 x168.1), (21, .int .i64 x168.2), (0, slv p_data), (1, .int .i64 p_a), (2, .int .i64 p_m), (3, .int .i64 p_b), (4, p_cmp), (18, .int .i64 (w .i64 (sShr .u64 (w .u64 (w .i64 (p_a + p_b))) 1))), (19, .int .i64 (w .i64 ((w .i64 (sShr .u64 (w .u64 (w .i64 (p_a + p_b))) 1)) + p_m)))]) ?_ ?_
      · skip
        refine GC.seq ?_
        refine GC.region ?_
        refine GL.val trivial rfl (OV.move (v := .int .i64 p_m) rfl) ?_
        refine GL.val trivial rfl (OV.move (v := .int .i64 (w .i64 (sShr .u64 (w .u64 (w .i64 (p_a + p_b))) 1))) rfl) ?_
        refine GL.val trivial rfl (OV.ibin (v := .bool (decide ((p_m : Int) > (w .i64 (sShr .u64 (w .u64 (w .i64 (p_a + p_b))) 1))))) rfl rfl rfl) ?_
        refine GL.nil ?_
        refine GC.cond (b := decide ((p_m : Int) > (w .i64 (sShr .u64 (w .u64 (w .i64 (p_a + p_b))) 1)))) rfl (fun hc171 => ?_) (fun hc171 => ?_)
        · replace h := And.left h hc171
          refine GC.seq ?_
          refine GC.region ?_
          refine GL.val trivial rfl (OV.move (v := .int .i64 (w .i64 ((w .i64 (sShr .u64 (w .u64 (w .i64 (p_a + p_b))) 1)) + p_m))) rfl) ?_
          refine GL.val trivial rfl (OV.move (v := .int .i64 p_b) rfl) ?_
          refine GL.val trivial rfl (OV.ibin (v := .int .i64 (w .i64 ((w .i64 ((w .i64 (sShr .u64 (w .u64 (w .i64 (p_a + p_b))) 1)) + p_m)) - p_b))) rfl rfl rfl) ?_
          refine GL.val trivial rfl (OV.assign (v := .int .i64 (w .i64 ((w .i64 ((w .i64 (sShr .u64 (w .u64 (w .i64 (p_a + p_b))) 1)) + p_m)) - p_b))) rfl) ?_
          refine GL.nil ?_
          refine GC.region ?_
          refine GL.val trivial rfl (OV.move (v := .int .i64 (w .i64 (sShr .u64 (w .u64 (w .i64 (p_a + p_b))) 1))) rfl) ?_
          refine GL.val trivial rfl (OV.assign (v := .int .i64 (w .i64 (sShr .u64 (w .u64 (w .i64 (p_a + p_b))) 1))) rfl) ?_
          exact GL.jump (fun _ _ h => h) ((w .i64 ((w .i64 ((w .i64 (sShr .u64 (w .u64 (w .i64 (p_a + p_b))) 1)) + p_m)) - p_b)), (w .i64 (sShr .u64 (w .u64 (w .i64 (p_a + p_b))) 1))) h ⟨rfl, rfl, rfl, rfl, rfl, rfl, rfl, rfl, rfl, trivial⟩
        · replace h := And.right h hc171
          refine GC.seq ?_
          refine GC.region ?_
          refine GL.val trivial rfl (OV.move (v := .int .i64 p_a) rfl) ?_
          refine GL.val trivial rfl (OV.assign (v := .int .i64 p_a) rfl) ?_
          refine GL.nil ?_
          refine GC.region ?_
          refine GL.val trivial rfl (OV.move (v := .int .i64 p_m) rfl) ?_
          refine GL.val trivial rfl (OV.assign (v := .int .i64 p_m) rfl) ?_
          exact GL.jump (fun _ _ h => h) (p_a, p_m) h ⟨rfl, rfl, rfl, rfl, rfl, rfl, rfl, rfl, rfl, trivial⟩
      · intro x168 H169 h
        replace h := hR170 x168 H169 h
        refine GC.seq ?_
        refine GC.region ?_
        refine GL.val trivial rfl (OV.move (v := .int .i64 (w .i64 ((w .i64 (sShr .u64 (w .u64 (w .i64 (p_a + p_b))) 1)) + p_m))) rfl) ?_
        refine GL.val trivial rfl (OV.ibin (v := .int .i64 (w .i64 ((w .i64 ((w .i64 (sShr .u64 (w .u64 (w .i64 (p_a + p_b))) 1)) + p_m)) - 1))) rfl rfl rfl) ?_
        refine GL.val trivial rfl (OV.assign (v := .int .i64 (w .i64 ((w .i64 ((w .i64 (sShr .u64 (w .u64 (w .i64 (p_a + p_b))) 1)) + p_m)) - 1))) rfl) ?_
        refine GL.nil ?_
        refine GC.seq ?_
        refine GC.block ?_
        refine GC.loop (α := Int × Int) h (fun x172 => [(20, .int .i64 x172.1), (21, .int .i64 x172.2), (0, slv p_data), (1, .int .i64 p_a), (2, .int .i64 p_m), (3, .int .i64 p_b), (4, p_cmp), (18, .int .i64 (w .i64 (sShr .u64 (w .u64 (w .i64 (p_a + p_b))) 1))), (19, .int .i64 (w .i64 ((w .i64 (sShr .u64 (w .u64 (w .i64 (p_a + p_b))) 1)) + p_m))), (22, .int .i64 (w .i64 ((w .i64 ((w .i64 (sShr .u64 (w .u64 (w .i64 (p_a + p_b))) 1)) + p_m)) - 1)))]) ⟨rfl, rfl, rfl, rfl, rfl, rfl, rfl, rfl, rfl, rfl, trivial⟩ ?_
        intro x172 H174 J173 h
        refine GC.seq ?_
        refine GC.seq ?_
        refine GC.region ?_
        refine GL.val trivial rfl (OV.move (v := .int .i64 x172.1) rfl) ?_
        refine GL.val trivial rfl (OV.move (v := .int .i64 x172.2) rfl) ?_
        refine GL.val trivial rfl (OV.ibin (v := .bool (decide ((x172.1 : Int) < x172.2))) rfl rfl rfl) ?_
        refine GL.nil ?_
        refine GC.cond (b := decide ((x172.1 : Int) < x172.2)) rfl (fun hc175 => ?_) (fun hc175 => ?_)
        · replace h := And.left h hc175
          refine GC.skip ?_
          refine GC.block ?_
          refine GC.seq ?_
          refine GC.region ?_
          refine GL.val trivial rfl (OV.move (v := .int .i64 x172.1) rfl) ?_
          refine GL.val trivial rfl (OV.move (v := .int .i64 x172.2) rfl) ?_
          refine GL.val trivial rfl (OV.ibin (v := .int .i64 (w .i64 (x172.1 + x172.2))) rfl rfl rfl) ?_
          refine GL.val trivial rfl (OV.convInt rfl rfl rfl) ?_
          refine GL.val trivial rfl (OV.shr rfl rfl (by decide)) ?_
          refine GL.val trivial rfl (OV.convInt rfl rfl rfl) ?_
          refine GL.val trivial rfl (OV.assign (v := .int .i64 (w .i64 (sShr .u64 (w .u64 (w .i64 (x172.1 + x172.2))) 1))) rfl) ?_
          refine GL.nil ?_
          refine GC.seq ?_
          obtain ⟨Hs176, hle177, h⟩ := h
          refine GC.any (Hs := Hs176) (by kernel_rfl) hle177 ?_
          refine GA.take 0 rfl (by kernel_rfl) (by kernel_rfl) (by kernel_rfl) (fun _ _ _ h => False.elim h) trivial rfl (OV.move (v := p_cmp) rfl) ?_
          refine GA.take 1 rfl (by kernel_rfl) (by kernel_rfl) (by kernel_rfl) (fun _ _ _ h => False.elim h) trivial rfl (OV.move (v := slv p_data) rfl) ?_
          refine GA.take 2 rfl (by kernel_rfl) (by kernel_rfl) (by kernel_rfl) (fun _ _ _ h => False.elim h) trivial rfl (OV.move (v := .int .i64 (w .i64 ((w .i64 ((w .i64 (sShr .u64 (w .u64 (w .i64 (p_a + p_b))) 1)) + p_m)) - 1))) rfl) ?_
          refine GA.take 3 rfl (by kernel_rfl) (by kernel_rfl) (by kernel_rfl) (fun _ _ _ h => False.elim h) trivial rfl (OV.move (v := .int .i64 (w .i64 (sShr .u64 (w .u64 (w .i64 (x172.1 + x172.2))) 1))) rfl) ?_
          refine GA.take 4 rfl (by kernel_rfl) (by kernel_rfl) (by kernel_rfl) (fun _ _ _ h => False.elim h) trivial rfl (OV.ibin (v := .int .i64 (w .i64 ((w .i64 ((w .i64 ((w .i64 (sShr .u64 (w .u64 (w .i64 (p_a + p_b))) 1)) + p_m)) - 1)) - (w .i64 (sShr .u64 (w .u64 (w .i64 (x172.1 + x172.2))) 1))))) rfl rfl rfl) ?_
          obtain ⟨p178, ha179, hb180, hc181, hd182, h⟩ := h
          refine GA.take 5 rfl (by kernel_rfl) (by kernel_rfl) (by kernel_rfl) (fun _ _ _ h => False.elim h) trivial rfl (OV.indexAddr (s := p_data) rfl rfl rfl rfl ha179 hb180 hc181 hd182) ?_
          obtain ⟨x183, hr184, h⟩ := h
          refine GA.take 6 rfl (by kernel_rfl) (by kernel_rfl) (by kernel_rfl) (fun _ _ _ h => False.elim h) trivial rfl (OV.load (p := (p178.1, p178.2 + (w .i64 ((w .i64 ((w .i64 ((w .i64 (sShr .u64 (w .u64 (w .i64 (p_a + p_b))) 1)) + p_m)) - 1)) - (w .i64 (sShr .u64 (w .u64 (w .i64 (x172.1 + x172.2))) 1))) : Int).toNat * 1)) rfl rfl hr184) ?_
          refine GA.take 7 rfl (by kernel_rfl) (by kernel_rfl) (by kernel_rfl) (fun _ _ _ h => False.elim h) trivial rfl (OV.move (v := slv p_data) rfl) ?_
          refine GA.take 8 rfl (by kernel_rfl) (by kernel_rfl) (by kernel_rfl) (fun _ _ _ h => False.elim h) trivial rfl (OV.move (v := .int .i64 (w .i64 (sShr .u64 (w .u64 (w .i64 (x172.1 + x172.2))) 1))) rfl) ?_
          obtain ⟨p185, ha186, hb187, hc188, hd189, h⟩ := h
          refine GA.take 9 rfl (by kernel_rfl) (by kernel_rfl) (by kernel_rfl) (fun _ _ _ h => False.elim h) trivial rfl (OV.indexAddr (s := p_data) rfl rfl rfl rfl ha186 hb187 hc188 hd189) ?_
          obtain ⟨x190, hr191, h⟩ := h
          refine GA.take 10 rfl (by kernel_rfl) (by kernel_rfl) (by kernel_rfl) (fun _ _ _ h => False.elim h) trivial rfl (OV.load (p := (p185.1, p185.2 + (w .i64 (sShr .u64 (w .u64 (w .i64 (x172.1 + x172.2))) 1) : Int).toNat * 1)) rfl rfl hr191) ?_
          refine GA.eff 11 rfl (by kernel_rfl) ?_
          refine GL.callU (xv := p_cmp) (vs := [slv x183, slv x190]) h trivial rfl rfl rfl ?_
          rintro _ H194 ⟨r193, rfl, h⟩
          obtain ⟨hle192, h⟩ := h
          refine GA.back hle192 ?_
          refine GA.take 12 rfl (by kernel_rfl) (by kernel_rfl) (by kernel_rfl) (fun _ _ _ h => False.elim h) trivial rfl (OV.ibin (v := .bool (decide ((r193 : Int) < 0))) rfl rfl rfl) ?_
          refine GA.take 13 rfl (by kernel_rfl) (by kernel_rfl) (by kernel_rfl) (fun _ _ _ h => False.elim h) trivial rfl (OV.not rfl) ?_
          refine GA.done (by kernel_rfl) ?_
          refine GL.nil ?_
          refine GC.cond (b := !(decide ((r193 : Int) < 0))) rfl (fun hc195 => ?_) (fun hc195 => ?_)
          · replace h := And.left h hc195
            refine GC.region ?_
            refine GL.val trivial rfl (OV.move (v := .int .i64 (w .i64 (sShr .u64 (w .u64 (w .i64 (x172.1 + x172.2))) 1))) rfl) ?_
            refine GL.val trivial rfl (OV.ibin (v := .int .i64 (w .i64 ((w .i64 (sShr .u64 (w .u64 (w .i64 (x172.1 + x172.2))) 1)) + 1))) rfl rfl rfl) ?_
            refine GL.val trivial rfl (OV.assign (v := .int .i64 (w .i64 ((w .i64 (sShr .u64 (w .u64 (w .i64 (x172.1 + x172.2))) 1)) + 1))) rfl) ?_
            exact GL.jump (fun _ _ h => h) ((w .i64 ((w .i64 (sShr .u64 (w .u64 (w .i64 (x172.1 + x172.2))) 1)) + 1)), x172.2) h ⟨rfl, rfl, rfl, rfl, rfl, rfl, rfl, rfl, rfl, rfl, trivial⟩
          · replace h := And.right h hc195
            refine GC.region ?_
            refine GL.val trivial rfl (OV.move (v := .int .i64 (w .i64 (sShr .u64 (w .u64 (w .i64 (x172.1 + x172.2))) 1))) rfl) ?_
            refine GL.val trivial rfl (OV.assign (v := .int .i64 (w .i64 (sShr .u64 (w .u64 (w .i64 (x172.1 + x172.2))) 1))) rfl) ?_
            exact GL.jump (fun _ _ h => h) (x172.1, (w .i64 (sShr .u64 (w .u64 (w .i64 (x172.1 + x172.2))) 1))) h ⟨rfl, rfl, rfl, rfl, rfl, rfl, rfl, rfl, rfl, rfl, trivial⟩
        · replace h := And.right h hc175
          refine GC.exit_to (fun _ _ h => h) ?_
          refine GC.seq ?_
          refine GC.region ?_
          refine GL.val trivial rfl (OV.move (v := .int .i64 (w .i64 ((w .i64 (sShr .u64 (w .u64 (w .i64 (p_a + p_b))) 1)) + p_m))) rfl) ?_
          refine GL.val trivial rfl (OV.move (v := .int .i64 x172.1) rfl) ?_
          refine GL.val trivial rfl (OV.ibin (v := .int .i64 (w .i64 ((w .i64 ((w .i64 (sShr .u64 (w .u64 (w .i64 (p_a + p_b))) 1)) + p_m)) - x172.1))) rfl rfl rfl) ?_
          refine GL.val trivial rfl (OV.assign (v := .int .i64 (w .i64 ((w .i64 ((w .i64 (sShr .u64 (w .u64 (w .i64 (p_a + p_b))) 1)) + p_m)) - x172.1))) rfl) ?_
          refine GL.nil ?_
          obtain ⟨J196, h, hR199⟩ := h
          refine GC.join (α := Unit) J196 (fun _ => [(0, slv p_data), (1, .int .i64 p_a), (3, .int .i64 p_b), (4, p_cmp), (18, .int .i64 (w .i64 (sShr .u64 (w .u64 (w .i64 (p_a + p_b))) 1))), (20, .int .i64 x172.1), (24, .int .i64 (w .i64 ((w .i64 ((w .i64 (sShr .u64 (w .u64 (w .i64 (p_a + p_b))) 1)) + p_m)) - x172.1)))]) ?_ ?_
          · skip
            refine GC.seq ?_
            refine GC.region ?_
            refine GL.val trivial rfl (OV.move (v := .int .i64 x172.1) rfl) ?_
            refine GL.val trivial rfl (OV.move (v := .int .i64 p_m) rfl) ?_
            refine GL.val trivial rfl (OV.ibin (v := .bool (decide ((x172.1 : Int) < p_m))) rfl rfl rfl) ?_
            refine GL.val trivial rfl (OV.move (v := .bool (decide ((x172.1 : Int) < p_m))) rfl) ?_
            refine GL.cut0 4 [(185, .bool ((decide ((x172.1 : Int) < p_m)) && (decide ((p_m : Int) < (w .i64 ((w .i64 ((w .i64 (sShr .u64 (w .u64 (w .i64 (p_a + p_b))) 1)) + p_m)) - x172.1)))))), (0, slv p_data), (1, .int .i64 p_a), (2, .int .i64 p_m), (3, .int .i64 p_b), (4, p_cmp), (18, .int .i64 (w .i64 (sShr .u64 (w .u64 (w .i64 (p_a + p_b))) 1))), (20, .int .i64 x172.1), (24, .int .i64 (w .i64 ((w .i64 ((w .i64 (sShr .u64 (w .u64 (w .i64 (p_a + p_b))) 1)) + p_m)) - x172.1)))] ?_ ?_
            · rcases Bool.eq_false_or_eq_true (decide ((x172.1 : Int) < p_m)) with hc200 | hc200
              · skip
                refine GL.val ⟨_, _, rfl, rfl, hc200⟩ rfl (OV.move (v := .int .i64 p_m) rfl) ?_
                refine GL.val ⟨_, _, rfl, rfl, hc200⟩ rfl (OV.move (v := .int .i64 (w .i64 ((w .i64 ((w .i64 (sShr .u64 (w .u64 (w .i64 (p_a + p_b))) 1)) + p_m)) - x172.1))) rfl) ?_
                refine GL.val ⟨_, _, rfl, rfl, hc200⟩ rfl (OV.ibin (v := .bool (decide ((p_m : Int) < (w .i64 ((w .i64 ((w .i64 (sShr .u64 (w .u64 (w .i64 (p_a + p_b))) 1)) + p_m)) - x172.1))))) rfl rfl rfl) ?_
                refine GL.val trivial rfl (OV.pickT (b := decide ((x172.1 : Int) < p_m)) (v := .bool (decide ((p_m : Int) < (w .i64 ((w .i64 ((w .i64 (sShr .u64 (w .u64 (w .i64 (p_a + p_b))) 1)) + p_m)) - x172.1))))) rfl hc200 rfl) ?_
                exact GL.jump0 (fun _ _ h => h) () rfl ⟨(by rw [hc200]; rfl), rfl, rfl, rfl, rfl, rfl, rfl, rfl, rfl, trivial⟩
              · skip
                refine GL.skip ⟨_, rfl, .inl ⟨_, rfl, hc200⟩⟩ rfl ?_
                refine GL.skip ⟨_, rfl, .inl ⟨_, rfl, hc200⟩⟩ rfl ?_
                refine GL.skip ⟨_, rfl, .inl ⟨_, rfl, hc200⟩⟩ rfl ?_
                refine GL.val trivial rfl (OV.pickF (b := decide ((x172.1 : Int) < p_m)) (v := .bool false) rfl hc200 rfl) ?_
                exact GL.jump0 (fun _ _ h => h) () rfl ⟨(by rw [hc200]; rfl), rfl, rfl, rfl, rfl, rfl, rfl, rfl, rfl, trivial⟩
            refine GL.nil ?_
            refine GC.cond (b := (decide ((x172.1 : Int) < p_m)) && (decide ((p_m : Int) < (w .i64 ((w .i64 ((w .i64 (sShr .u64 (w .u64 (w .i64 (p_a + p_b))) 1)) + p_m)) - x172.1))))) rfl (fun hc201 => ?_) (fun hc201 => ?_)
            · replace h := And.left h hc201
              refine GC.region ?_
              refine GL.val trivial rfl (OV.move (v := slv p_data) rfl) ?_
              refine GL.val trivial rfl (OV.move (v := .int .i64 x172.1) rfl) ?_
              refine GL.val trivial rfl (OV.move (v := .int .i64 p_m) rfl) ?_
              refine GL.val trivial rfl (OV.move (v := .int .i64 (w .i64 ((w .i64 ((w .i64 (sShr .u64 (w .u64 (w .i64 (p_a + p_b))) 1)) + p_m)) - x172.1))) rfl) ?_
              refine GL.val trivial rfl (OV.move (v := p_cmp) rfl) ?_
              refine GL.call h trivial rfl ok_slices_rotateCmpFunc_api_Value (vs := [slv p_data, .int .i64 x172.1, .int .i64 p_m, .int .i64 (w .i64 ((w .i64 ((w .i64 (sShr .u64 (w .u64 (w .i64 (p_a + p_b))) 1)) + p_m)) - x172.1)), p_cmp]) rfl ?_
              rintro _ H202 ⟨rfl, h⟩
              exact GL.jump (fun _ _ h => h) () h ⟨rfl, rfl, rfl, rfl, rfl, rfl, rfl, trivial⟩
            · replace h := And.right h hc201
              exact GC.jump (fun _ _ h => h) () h ⟨rfl, rfl, rfl, rfl, rfl, rfl, rfl, trivial⟩
          · intro x197 H198 h
            replace h := hR199 x197 H198 h
            obtain ⟨J203, h, hR206⟩ := h
            refine GC.join (α := Unit) J203 (fun _ => [(0, slv p_data), (3, .int .i64 p_b), (4, p_cmp), (18, .int .i64 (w .i64 (sShr .u64 (w .u64 (w .i64 (p_a + p_b))) 1))), (24, .int .i64 (w .i64 ((w .i64 ((w .i64 (sShr .u64 (w .u64 (w .i64 (p_a + p_b))) 1)) + p_m)) - x172.1)))]) ?_ ?_
            · skip
              refine GC.seq ?_
              refine GC.region ?_
              refine GL.val trivial rfl (OV.move (v := .int .i64 p_a) rfl) ?_
              refine GL.val trivial rfl (OV.move (v := .int .i64 x172.1) rfl) ?_
              refine GL.val trivial rfl (OV.ibin (v := .bool (decide ((p_a : Int) < x172.1))) rfl rfl rfl) ?_
              refine GL.val trivial rfl (OV.move (v := .bool (decide ((p_a : Int) < x172.1))) rfl) ?_
              refine GL.cut0 4 [(199, .bool ((decide ((p_a : Int) < x172.1)) && (decide ((x172.1 : Int) < (w .i64 (sShr .u64 (w .u64 (w .i64 (p_a + p_b))) 1)))))), (0, slv p_data), (1, .int .i64 p_a), (3, .int .i64 p_b), (4, p_cmp), (18, .int .i64 (w .i64 (sShr .u64 (w .u64 (w .i64 (p_a + p_b))) 1))), (20, .int .i64 x172.1), (24, .int .i64 (w .i64 ((w .i64 ((w .i64 (sShr .u64 (w .u64 (w .i64 (p_a + p_b))) 1)) + p_m)) - x172.1)))] ?_ ?_
              · rcases Bool.eq_false_or_eq_true (decide ((p_a : Int) < x172.1)) with hc207 | hc207
                · skip
                  refine GL.val ⟨_, _, rfl, rfl, hc207⟩ rfl (OV.move (v := .int .i64 x172.1) rfl) ?_
                  refine GL.val ⟨_, _, rfl, rfl, hc207⟩ rfl (OV.move (v := .int .i64 (w .i64 (sShr .u64 (w .u64 (w .i64 (p_a + p_b))) 1))) rfl) ?_
                  refine GL.val ⟨_, _, rfl, rfl, hc207⟩ rfl (OV.ibin (v := .bool (decide ((x172.1 : Int) < (w .i64 (sShr .u64 (w .u64 (w .i64 (p_a + p_b))) 1))))) rfl rfl rfl) ?_
                  refine GL.val trivial rfl (OV.pickT (b := decide ((p_a : Int) < x172.1)) (v := .bool (decide ((x172.1 : Int) < (w .i64 (sShr .u64 (w .u64 (w .i64 (p_a + p_b))) 1))))) rfl hc207 rfl) ?_
                  exact GL.jump0 (fun _ _ h => h) () rfl ⟨(by rw [hc207]; rfl), rfl, rfl, rfl, rfl, rfl, rfl, rfl, trivial⟩
                · skip
                  refine GL.skip ⟨_, rfl, .inl ⟨_, rfl, hc207⟩⟩ rfl ?_
                  refine GL.skip ⟨_, rfl, .inl ⟨_, rfl, hc207⟩⟩ rfl ?_
                  refine GL.skip ⟨_, rfl, .inl ⟨_, rfl, hc207⟩⟩ rfl ?_
                  refine GL.val trivial rfl (OV.pickF (b := decide ((p_a : Int) < x172.1)) (v := .bool false) rfl hc207 rfl) ?_
                  exact GL.jump0 (fun _ _ h => h) () rfl ⟨(by rw [hc207]; rfl), rfl, rfl, rfl, rfl, rfl, rfl, rfl, trivial⟩
              refine GL.nil ?_
              refine GC.cond (b := (decide ((p_a : Int) < x172.1)) && (decide ((x172.1 : Int) < (w .i64 (sShr .u64 (w .u64 (w .i64 (p_a + p_b))) 1))))) rfl (fun hc208 => ?_) (fun hc208 => ?_)
              · replace h := And.left h hc208
                refine GC.region ?_
                refine GL.val trivial rfl (OV.move (v := slv p_data) rfl) ?_
                refine GL.val trivial rfl (OV.move (v := .int .i64 p_a) rfl) ?_
                refine GL.val trivial rfl (OV.move (v := .int .i64 x172.1) rfl) ?_
                refine GL.val trivial rfl (OV.move (v := .int .i64 (w .i64 (sShr .u64 (w .u64 (w .i64 (p_a + p_b))) 1))) rfl) ?_
                refine GL.val trivial rfl (OV.move (v := p_cmp) rfl) ?_
                refine GL.call h trivial rfl ok_slices_symMergeCmpFunc_api_Value (vs := [slv p_data, .int .i64 p_a, .int .i64 x172.1, .int .i64 (w .i64 (sShr .u64 (w .u64 (w .i64 (p_a + p_b))) 1)), p_cmp]) rfl ?_
                rintro _ H209 ⟨rfl, h⟩
                exact GL.jump (fun _ _ h => h) () h ⟨rfl, rfl, rfl, rfl, rfl, trivial⟩
              · replace h := And.right h hc208
                exact GC.jump (fun _ _ h => h) () h ⟨rfl, rfl, rfl, rfl, rfl, trivial⟩
            · intro x204 H205 h
              replace h := hR206 x204 H205 h
              refine GC.seq ?_
              refine GC.region ?_
              refine GL.val trivial rfl (OV.move (v := .int .i64 (w .i64 (sShr .u64 (w .u64 (w .i64 (p_a + p_b))) 1))) rfl) ?_
              refine GL.val trivial rfl (OV.move (v := .int .i64 (w .i64 ((w .i64 ((w .i64 (sShr .u64 (w .u64 (w .i64 (p_a + p_b))) 1)) + p_m)) - x172.1))) rfl) ?_
              refine GL.val trivial rfl (OV.ibin (v := .bool (decide (((w .i64 (sShr .u64 (w .u64 (w .i64 (p_a + p_b))) 1)) : Int) < (w .i64 ((w .i64 ((w .i64 (sShr .u64 (w .u64 (w .i64 (p_a + p_b))) 1)) + p_m)) - x172.1))))) rfl rfl rfl) ?_
              refine GL.val trivial rfl (OV.move (v := .bool (decide (((w .i64 (sShr .u64 (w .u64 (w .i64 (p_a + p_b))) 1)) : Int) < (w .i64 ((w .i64 ((w .i64 (sShr .u64 (w .u64 (w .i64 (p_a + p_b))) 1)) + p_m)) - x172.1))))) rfl) ?_
              refine GL.cut0 4 [(213, .bool ((decide (((w .i64 (sShr .u64 (w .u64 (w .i64 (p_a + p_b))) 1)) : Int) < (w .i64 ((w .i64 ((w .i64 (sShr .u64 (w .u64 (w .i64 (p_a + p_b))) 1)) + p_m)) - x172.1)))) && (decide (((w .i64 ((w .i64 ((w .i64 (sShr .u64 (w .u64 (w .i64 (p_a + p_b))) 1)) + p_m)) - x172.1)) : Int) < p_b)))), (0, slv p_data), (3, .int .i64 p_b), (4, p_cmp), (18, .int .i64 (w .i64 (sShr .u64 (w .u64 (w .i64 (p_a + p_b))) 1))), (24, .int .i64 (w .i64 ((w .i64 ((w .i64 (sShr .u64 (w .u64 (w .i64 (p_a + p_b))) 1)) + p_m)) - x172.1)))] ?_ ?_
              · rcases Bool.eq_false_or_eq_true (decide (((w .i64 (sShr .u64 (w .u64 (w .i64 (p_a + p_b))) 1)) : Int) < (w .i64 ((w .i64 ((w .i64 (sShr .u64 (w .u64 (w .i64 (p_a + p_b))) 1)) + p_m)) - x172.1)))) with hc210 | hc210
                · skip
                  refine GL.val ⟨_, _, rfl, rfl, hc210⟩ rfl (OV.move (v := .int .i64 (w .i64 ((w .i64 ((w .i64 (sShr .u64 (w .u64 (w .i64 (p_a + p_b))) 1)) + p_m)) - x172.1))) rfl) ?_
                  refine GL.val ⟨_, _, rfl, rfl, hc210⟩ rfl (OV.move (v := .int .i64 p_b) rfl) ?_
                  refine GL.val ⟨_, _, rfl, rfl, hc210⟩ rfl (OV.ibin (v := .bool (decide (((w .i64 ((w .i64 ((w .i64 (sShr .u64 (w .u64 (w .i64 (p_a + p_b))) 1)) + p_m)) - x172.1)) : Int) < p_b))) rfl rfl rfl) ?_
                  refine GL.val trivial rfl (OV.pickT (b := decide (((w .i64 (sShr .u64 (w .u64 (w .i64 (p_a + p_b))) 1)) : Int) < (w .i64 ((w .i64 ((w .i64 (sShr .u64 (w .u64 (w .i64 (p_a + p_b))) 1)) + p_m)) - x172.1)))) (v := .bool (decide (((w .i64 ((w .i64 ((w .i64 (sShr .u64 (w .u64 (w .i64 (p_a + p_b))) 1)) + p_m)) - x172.1)) : Int) < p_b))) rfl hc210 rfl) ?_
                  exact GL.jump0 (fun _ _ h => h) () rfl ⟨(by rw [hc210]; rfl), rfl, rfl, rfl, rfl, rfl, trivial⟩
                · skip
                  refine GL.skip ⟨_, rfl, .inl ⟨_, rfl, hc210⟩⟩ rfl ?_
                  refine GL.skip ⟨_, rfl, .inl ⟨_, rfl, hc210⟩⟩ rfl ?_
                  refine GL.skip ⟨_, rfl, .inl ⟨_, rfl, hc210⟩⟩ rfl ?_
                  refine GL.val trivial rfl (OV.pickF (b := decide (((w .i64 (sShr .u64 (w .u64 (w .i64 (p_a + p_b))) 1)) : Int) < (w .i64 ((w .i64 ((w .i64 (sShr .u64 (w .u64 (w .i64 (p_a + p_b))) 1)) + p_m)) - x172.1)))) (v := .bool false) rfl hc210 rfl) ?_
                  exact GL.jump0 (fun _ _ h => h) () rfl ⟨(by rw [hc210]; rfl), rfl, rfl, rfl, rfl, rfl, trivial⟩
              refine GL.nil ?_
              refine GC.cond (b := (decide (((w .i64 (sShr .u64 (w .u64 (w .i64 (p_a + p_b))) 1)) : Int) < (w .i64 ((w .i64 ((w .i64 (sShr .u64 (w .u64 (w .i64 (p_a + p_b))) 1)) + p_m)) - x172.1)))) && (decide (((w .i64 ((w .i64 ((w .i64 (sShr .u64 (w .u64 (w .i64 (p_a + p_b))) 1)) + p_m)) - x172.1)) : Int) < p_b))) rfl (fun hc211 => ?_) (fun hc211 => ?_)
              · replace h := And.left h hc211
                refine GC.region ?_
                refine GL.val trivial rfl (OV.move (v := slv p_data) rfl) ?_
                refine GL.val trivial rfl (OV.move (v := .int .i64 (w .i64 (sShr .u64 (w .u64 (w .i64 (p_a + p_b))) 1))) rfl) ?_
                refine GL.val trivial rfl (OV.move (v := .int .i64 (w .i64 ((w .i64 ((w .i64 (sShr .u64 (w .u64 (w .i64 (p_a + p_b))) 1)) + p_m)) - x172.1))) rfl) ?_
                refine GL.val trivial rfl (OV.move (v := .int .i64 p_b) rfl) ?_
                refine GL.val trivial rfl (OV.move (v := p_cmp) rfl) ?_
                refine GL.call h trivial rfl ok_slices_symMergeCmpFunc_api_Value (vs := [slv p_data, .int .i64 (w .i64 (sShr .u64 (w .u64 (w .i64 (p_a + p_b))) 1)), .int .i64 (w .i64 ((w .i64 ((w .i64 (sShr .u64 (w .u64 (w .i64 (p_a + p_b))) 1)) + p_m)) - x172.1)), .int .i64 p_b, p_cmp]) rfl ?_
                rintro _ H212 ⟨rfl, h⟩
                exact GL.ends (fun _ _ hf hs => post_tmp0 rfl hf hs ⟨rfl, h⟩)
              · replace h := And.right h hc211
                exact GC.ends (fun _ _ hf hs => post_tmp0 rfl hf hs ⟨rfl, h⟩)

def sh_internal_stringslite_TrimPrefix (C : Ctx) (p_s : Str) (p_prefix : Str) (K : Str → Heap → Prop) (H : Heap) : Prop :=
  c_internal_stringslite_HasPrefix C p_s p_prefix (fun r1 H2 =>
 ift r1
 (slS p_s (List.length p_prefix : Int) (List.length p_s : Int) fun t4 =>
 K t4 H2)
 (K p_s H2)) H

theorem ad_internal_stringslite_TrimPrefix (C : Ctx) (p_s : Str) (p_prefix : Str) (K : Str → Heap → Prop) (H : Heap) (h : sh_internal_stringslite_TrimPrefix C p_s p_prefix K H) : c_internal_stringslite_TrimPrefix C p_s p_prefix K H := by
  refine Spec.enter Tryd.func69 rfl Tryd.ntmps69 rfl ?_
  refine GC.sub [(0, sv p_s), (1, sv p_prefix)] ⟨rfl, rfl, trivial⟩ ?_
  refine GC.seq ?_
  refine GC.region ?_
  refine GL.val trivial rfl (OV.assign (v := sv []) rfl) ?_
  refine GL.nil ?_
  refine GC.seq ?_
  refine GC.seq ?_
  refine GC.region ?_
  refine GL.val trivial rfl (OV.move (v := sv p_s) rfl) ?_
  refine GL.val trivial rfl (OV.move (v := sv p_prefix) rfl) ?_
  refine GL.call h trivial rfl ok_internal_stringslite_HasPrefix (vs := [sv p_s, sv p_prefix]) rfl ?_
  rintro _ H2 ⟨r1, rfl, h⟩
  refine GL.nil ?_
  refine GC.cond (b := r1) rfl (fun hc3 => ?_) (fun hc3 => ?_)
  · replace h := And.left h hc3
    refine GC.seq ?_
    refine GC.region ?_
    refine GL.val trivial rfl (OV.move (v := sv p_s) rfl) ?_
    refine GL.val trivial rfl (OV.move (v := sv p_prefix) rfl) ?_
    refine GL.val trivial rfl (OV.lenStr (s := p_prefix) rfl rfl) ?_
    obtain ⟨h5, h6, h7, t4, h8, h⟩ := h
    refine GL.val trivial rfl (OV.sliceStr (s := p_s) h5 h6 h7 h8 rfl rfl rfl rfl rfl rfl) ?_
    refine GL.val trivial rfl (OV.assign (v := sv t4) rfl) ?_
    refine GL.nil ?_
    exact GC.ret (fun _ _ hf hs => post_tmp1 rfl rfl hf hs ⟨t4, rfl, h⟩)
  · replace h := And.right h hc3
    refine GC.skip ?_
    refine GC.seq ?_
    refine GC.region ?_
    refine GL.val trivial rfl (OV.move (v := sv p_s) rfl) ?_
    refine GL.val trivial rfl (OV.assign (v := sv p_s) rfl) ?_
    refine GL.nil ?_
    exact GC.ret (fun _ _ hf hs => post_tmp1 rfl rfl hf hs ⟨p_s, rfl, h⟩)

def sh_strings_makeASCIISet (C : Ctx) (p_chars : Str) (K : List Value → Bool → Heap → Prop) (H : Heap) : Prop :=
  nw ((List.replicate 256 (.bool false : Value))) (fun b1 H2 =>
 lp (α := Int) 0 H2 (fun x3 J4 H5 =>
 ift (decide ((x3 : Int) < (List.length p_chars : Int)))
 (ixs p_chars x3 fun c7 =>
 ift (decide (((c7.toNat : Int) : Int) ≥ 128))
 (ldC H5 256 (b1, 0) fun x11 =>
 stC 256 (b1, 0) x11 (fun H14 =>
 ldC H14 256 (b1, 0) fun x17 =>
 K x17 false H14) H5)
 (ixr (b1, 0) 256 (c7.toNat : Int) <|
 st ((b1, 0).1, (b1, 0).2 + ((c7.toNat : Int) : Int).toNat * 1) (.bool true) (fun H22 =>
 J4 (w .i64 (x3 + 1)) H22) H5))
 (ldC H5 256 (b1, 0) fun x23 =>
 stC 256 (b1, 0) x23 (fun H26 =>
 ldC H26 256 (b1, 0) fun x29 =>
 K x29 true H26) H5))) H

theorem ad_strings_makeASCIISet (C : Ctx) (p_chars : Str) (K : List Value → Bool → Heap → Prop) (H : Heap) (h : sh_strings_makeASCIISet C p_chars K H) : c_strings_makeASCIISet C p_chars K H := by
  refine Spec.enter Tryd.func72 rfl Tryd.ntmps72 rfl ?_
  refine GC.sub [(0, sv p_chars)] ⟨rfl, trivial⟩ ?_
  refine GC.seq ?_
  refine GC.region ?_
  refine GL.alloc (cs := (List.replicate 256 (.bool false : Value))) h trivial rfl rfl rfl ?_
  intro b1 H2 h
  refine GL.val trivial rfl (OV.assign (v := .bool false) rfl) ?_
  refine GL.nil ?_
  refine GC.seq ?_
  refine GC.seq ?_
  refine GC.region ?_
  refine GL.val trivial rfl (OV.assign (v := .int .i64 0) rfl) ?_
  refine GL.nil ?_
  refine GC.block ?_
  refine GC.loop (α := Int) h (fun x3 => [(4, .int .i64 x3), (0, sv p_chars), (2, pv (some (b1, 0)))]) ⟨rfl, rfl, rfl, trivial⟩ ?_
  intro x3 H5 J4 h
  refine GC.seq ?_
  refine GC.seq ?_
  refine GC.region ?_
  refine GL.val trivial rfl (OV.move (v := .int .i64 x3) rfl) ?_
  refine GL.val trivial rfl (OV.move (v := sv p_chars) rfl) ?_
  refine GL.val trivial rfl (OV.lenStr (s := p_chars) rfl rfl) ?_
  refine GL.val trivial rfl (OV.ibin (v := .bool (decide ((x3 : Int) < (List.length p_chars : Int)))) rfl rfl rfl) ?_
  refine GL.nil ?_
  refine GC.cond (b := decide ((x3 : Int) < (List.length p_chars : Int))) rfl (fun hc6 => ?_) (fun hc6 => ?_)
  · replace h := And.left h hc6
    refine GC.skip ?_
    refine GC.seq ?_
    refine GC.block ?_
    refine GC.seq ?_
    refine GC.region ?_
    refine GL.val trivial rfl (OV.move (v := sv p_chars) rfl) ?_
    refine GL.val trivial rfl (OV.move (v := .int .i64 x3) rfl) ?_
    obtain ⟨c7, ha8, hb9, h⟩ := h
    refine GL.val trivial rfl (OV.indexStr (s := p_chars) rfl rfl rfl ha8 hb9) ?_
    refine GL.val trivial rfl (OV.assign (v := .int .u8 (c7.toNat : Int)) rfl) ?_
    refine GL.nil ?_
    refine GC.seq ?_
    refine GC.seq ?_
    refine GC.region ?_
    refine GL.val trivial rfl (OV.move (v := .int .u8 (c7.toNat : Int)) rfl) ?_
    refine GL.val trivial rfl (OV.ibin (v := .bool (decide (((c7.toNat : Int) : Int) ≥ 128))) rfl rfl rfl) ?_
    refine GL.nil ?_
    refine GC.cond (b := decide (((c7.toNat : Int) : Int) ≥ 128)) rfl (fun hc10 => ?_) (fun hc10 => ?_)
    · replace h := And.left h hc10
      refine GC.seq ?_
      refine GC.region ?_
      obtain ⟨x11, hl13, hr12, h⟩ := h
      refine GL.val trivial rfl (OV.loadT (p := (b1, 0)) (cs := x11) rfl rfl (by rw [hl13]; rfl) hr12) ?_
      obtain ⟨hl15, h116, h⟩ := h
      refine GL.storeT (p := (b1, 0)) (vs := x11) h trivial rfl rfl h116 (by rw [hl15]; rfl) ?_
      intro H14 h
      refine GL.val trivial rfl (OV.assign (v := .bool false) rfl) ?_
      refine GL.nil ?_
      obtain ⟨x17, hl19, hr18, h⟩ := h
      exact GC.ret (fun _ _ hf hs => post_res2 rfl (RV.cellT (p := (b1, 0)) (cs := x17) rfl rfl (by rw [hl19]; rfl) hr18) (RV.tmp rfl) hf hs ⟨x17, false, rfl, h⟩)
    · replace h := And.right h hc10
      refine GC.skip ?_
      refine GC.region ?_
      refine GL.val trivial rfl (OV.move (v := .int .u8 (c7.toNat : Int)) rfl) ?_
      obtain ⟨ha20, hb21, h⟩ := h
      refine GL.val trivial rfl (OV.indexAddrA (p := (b1, 0)) rfl rfl rfl rfl ha20 hb21) ?_
      refine GL.store (p := ((b1, 0).1, (b1, 0).2 + ((c7.toNat : Int) : Int).toNat * 1)) (v := .bool true) h trivial rfl rfl rfl rfl ?_
      intro H22 h
      refine GL.nil_to (fun _ _ h => h) ?_
      refine GC.region ?_
      refine GL.val trivial rfl (OV.move (v := .int .i64 x3) rfl) ?_
      refine GL.val trivial rfl (OV.ibin (v := .int .i64 (w .i64 (x3 + 1))) rfl rfl rfl) ?_
      refine GL.val trivial rfl (OV.assign (v := .int .i64 (w .i64 (x3 + 1))) rfl) ?_
      exact GL.jump (fun _ _ h => h) (w .i64 (x3 + 1)) h ⟨rfl, rfl, rfl, trivial⟩
  · replace h := And.right h hc6
    refine GC.exit_to (fun _ _ h => h) ?_
    refine GC.seq ?_
    refine GC.region ?_
    obtain ⟨x23, hl25, hr24, h⟩ := h
    refine GL.val trivial rfl (OV.loadT (p := (b1, 0)) (cs := x23) rfl rfl (by rw [hl25]; rfl) hr24) ?_
    obtain ⟨hl27, h128, h⟩ := h
    refine GL.storeT (p := (b1, 0)) (vs := x23) h trivial rfl rfl h128 (by rw [hl27]; rfl) ?_
    intro H26 h
    refine GL.val trivial rfl (OV.assign (v := .bool true) rfl) ?_
    refine GL.nil ?_
    obtain ⟨x29, hl31, hr30, h⟩ := h
    exact GC.ret (fun _ _ hf hs => post_res2 rfl (RV.cellT (p := (b1, 0)) (cs := x29) rfl rfl (by rw [hl31]; rfl) hr30) (RV.tmp rfl) hf hs ⟨x29, true, rfl, h⟩)

def sh_strings_trimLeftASCII (C : Ctx) (p_s : Str) (p_as : Option (Nat × Nat)) (K : Str → Heap → Prop) (H : Heap) : Prop :=
  jn (α := Str) (fun x2 H3 =>
 K x2 H3)
 (fun J1 => lp (α := Str) p_s H (fun x5 J6 H7 =>
 ift (decide (((List.length x5 : Int) : Int) > 0))
 (ixs x5 0 fun c9 =>
 c_strings_asciiSet_contains C p_as (c9.toNat : Int) (fun r12 H13 =>
 ift (!r12)
 (J1 x5 H13)
 (slS x5 1 (List.length x5 : Int) fun t15 =>
 J6 t15 H13)) H7)
 (J1 x5 H7)))

theorem ad_strings_trimLeftASCII (C : Ctx) (p_s : Str) (p_as : Option (Nat × Nat)) (K : Str → Heap → Prop) (H : Heap) (h : sh_strings_trimLeftASCII C p_s p_as K H) : c_strings_trimLeftASCII C p_s p_as K H := by
  refine Spec.enter Tryd.func73 rfl Tryd.ntmps73 rfl ?_
  refine GC.sub [(0, sv p_s), (1, pv p_as)] ⟨rfl, rfl, trivial⟩ ?_
  refine GC.seq ?_
  refine GC.region ?_
  refine GL.val trivial rfl (OV.assign (v := sv []) rfl) ?_
  refine GL.nil ?_
  obtain ⟨J1, h, hR4⟩ := h
  refine GC.join (α := Str) J1 (fun x2 => [(0, sv x2)]) ?_ ?_
  · skip
    refine GC.block ?_
    refine GC.loop (α := Str) h (fun x5 => [(0, sv x5), (1, pv p_as)]) ⟨rfl, rfl, trivial⟩ ?_
    intro x5 H7 J6 h
    refine GC.seq ?_
    refine GC.seq ?_
    refine GC.region ?_
    refine GL.val trivial rfl (OV.move (v := sv x5) rfl) ?_
    refine GL.val trivial rfl (OV.lenStr (s := x5) rfl rfl) ?_
    refine GL.val trivial rfl (OV.ibin (v := .bool (decide (((List.length x5 : Int) : Int) > 0))) rfl rfl rfl) ?_
    refine GL.nil ?_
    refine GC.cond (b := decide (((List.length x5 : Int) : Int) > 0)) rfl (fun hc8 => ?_) (fun hc8 => ?_)
    · replace h := And.left h hc8
      refine GC.skip ?_
      refine GC.block ?_
      refine GC.seq ?_
      refine GC.seq ?_
      refine GC.region ?_
      refine GL.val trivial rfl (OV.move (v := pv p_as) rfl) ?_
      refine GL.val trivial rfl (OV.move (v := sv x5) rfl) ?_
      obtain ⟨c9, ha10, hb11, h⟩ := h
      refine GL.val trivial rfl (OV.indexStr (s := x5) rfl rfl rfl ha10 hb11) ?_
      refine GL.call h trivial rfl ok_strings_asciiSet_contains (vs := [pv p_as, .int .u8 (c9.toNat : Int)]) rfl ?_
      rintro _ H13 ⟨r12, rfl, h⟩
      refine GL.val trivial rfl (OV.not rfl) ?_
      refine GL.nil ?_
      refine GC.cond (b := !r12) rfl (fun hc14 => ?_) (fun hc14 => ?_)
      · replace h := And.left h hc14
        exact GC.exit_jump (fun _ _ h => h) x5 h ⟨rfl, trivial⟩
      · replace h := And.right h hc14
        refine GC.skip ?_
        refine GC.region ?_
        refine GL.val trivial rfl (OV.move (v := sv x5) rfl) ?_
        obtain ⟨h16, h17, h18, t15, h19, h⟩ := h
        refine GL.val trivial rfl (OV.sliceStr (s := x5) h16 h17 h18 h19 rfl rfl rfl rfl rfl rfl) ?_
        refine GL.val trivial rfl (OV.assign (v := sv t15) rfl) ?_
        exact GL.jump (fun _ _ h => h) t15 h ⟨rfl, rfl, trivial⟩
    · replace h := And.right h hc8
      exact GC.exit_jump (fun _ _ h => h) x5 h ⟨rfl, trivial⟩
  · intro x2 H3 h
    replace h := hR4 x2 H3 h
    refine GC.seq ?_
    refine GC.region ?_
    refine GL.val trivial rfl (OV.move (v := sv x2) rfl) ?_
    refine GL.val trivial rfl (OV.assign (v := sv x2) rfl) ?_
    refine GL.nil ?_
    exact GC.ret (fun _ _ hf hs => post_tmp1 rfl rfl hf hs ⟨x2, rfl, h⟩)

def sh_strings_trimRightASCII (C : Ctx) (p_s : Str) (p_as : Option (Nat × Nat)) (K : Str → Heap → Prop) (H : Heap) : Prop :=
  jn (α := Str) (fun x2 H3 =>
 K x2 H3)
 (fun J1 => lp (α := Str) p_s H (fun x5 J6 H7 =>
 ift (decide (((List.length x5 : Int) : Int) > 0))
 (ixs x5 (w .i64 ((List.length x5 : Int) - 1)) fun c9 =>
 c_strings_asciiSet_contains C p_as (c9.toNat : Int) (fun r12 H13 =>
 ift (!r12)
 (J1 x5 H13)
 (slS x5 0 (w .i64 ((List.length x5 : Int) - 1)) fun t15 =>
 J6 t15 H13)) H7)
 (J1 x5 H7)))

theorem ad_strings_trimRightASCII (C : Ctx) (p_s : Str) (p_as : Option (Nat × Nat)) (K : Str → Heap → Prop) (H : Heap) (h : sh_strings_trimRightASCII C p_s p_as K H) : c_strings_trimRightASCII C p_s p_as K H := by
  refine Spec.enter Tryd.func74 rfl Tryd.ntmps74 rfl ?_
  refine GC.sub [(0, sv p_s), (1, pv p_as)] ⟨rfl, rfl, trivial⟩ ?_
  refine GC.seq ?_
  refine GC.region ?_
  refine GL.val trivial rfl (OV.assign (v := sv []) rfl) ?_
  refine GL.nil ?_
  obtain ⟨J1, h, hR4⟩ := h
  refine GC.join (α := Str) J1 (fun x2 => [(0, sv x2)]) ?_ ?_
  · skip
    refine GC.block ?_
    refine GC.loop (α := Str) h (fun x5 => [(0, sv x5), (1, pv p_as)]) ⟨rfl, rfl, trivial⟩ ?_
    intro x5 H7 J6 h
    refine GC.seq ?_
    refine GC.seq ?_
    refine GC.region ?_
    refine GL.val trivial rfl (OV.move (v := sv x5) rfl) ?_
    refine GL.val trivial rfl (OV.lenStr (s := x5) rfl rfl) ?_
    refine GL.val trivial rfl (OV.ibin (v := .bool (decide (((List.length x5 : Int) : Int) > 0))) rfl rfl rfl) ?_
    refine GL.nil ?_
    refine GC.cond (b := decide (((List.length x5 : Int) : Int) > 0)) rfl (fun hc8 => ?_) (fun hc8 => ?_)
    · replace h := And.left h hc8
      refine GC.skip ?_
      refine GC.block ?_
      refine GC.seq ?_
      refine GC.seq ?_
      refine GC.region ?_
      refine GL.val trivial rfl (OV.move (v := pv p_as) rfl) ?_
      refine GL.val trivial rfl (OV.move (v := sv x5) rfl) ?_
      refine GL.val trivial rfl (OV.move (v := sv x5) rfl) ?_
      refine GL.val trivial rfl (OV.lenStr (s := x5) rfl rfl) ?_
      refine GL.val trivial rfl (OV.ibin (v := .int .i64 (w .i64 ((List.length x5 : Int) - 1))) rfl rfl rfl) ?_
      obtain ⟨c9, ha10, hb11, h⟩ := h
      refine GL.val trivial rfl (OV.indexStr (s := x5) rfl rfl rfl ha10 hb11) ?_
      refine GL.call h trivial rfl ok_strings_asciiSet_contains (vs := [pv p_as, .int .u8 (c9.toNat : Int)]) rfl ?_
      rintro _ H13 ⟨r12, rfl, h⟩
      refine GL.val trivial rfl (OV.not rfl) ?_
      refine GL.nil ?_
      refine GC.cond (b := !r12) rfl (fun hc14 => ?_) (fun hc14 => ?_)
      · replace h := And.left h hc14
        exact GC.exit_jump (fun _ _ h => h) x5 h ⟨rfl, trivial⟩
      · replace h := And.right h hc14
        refine GC.skip ?_
        refine GC.region ?_
        refine GL.val trivial rfl (OV.move (v := sv x5) rfl) ?_
        refine GL.val trivial rfl (OV.move (v := sv x5) rfl) ?_
        refine GL.val trivial rfl (OV.lenStr (s := x5) rfl rfl) ?_
        refine GL.val trivial rfl (OV.ibin (v := .int .i64 (w .i64 ((List.length x5 : Int) - 1))) rfl rfl rfl) ?_
        obtain ⟨h16, h17, h18, t15, h19, h⟩ := h
        refine GL.val trivial rfl (OV.sliceStr (s := x5) h16 h17 h18 h19 rfl rfl rfl rfl rfl rfl) ?_
        refine GL.val trivial rfl (OV.assign (v := sv t15) rfl) ?_
        exact GL.jump (fun _ _ h => h) t15 h ⟨rfl, rfl, trivial⟩
    · replace h := And.right h hc8
      exact GC.exit_jump (fun _ _ h => h) x5 h ⟨rfl, trivial⟩
  · intro x2 H3 h
    replace h := hR4 x2 H3 h
    refine GC.seq ?_
    refine GC.region ?_
    refine GL.val trivial rfl (OV.move (v := sv x2) rfl) ?_
    refine GL.val trivial rfl (OV.assign (v := sv x2) rfl) ?_
    refine GL.nil ?_
    exact GC.ret (fun _ _ hf hs => post_tmp1 rfl rfl hf hs ⟨x2, rfl, h⟩)

def sh_internal_stringslite_Index (C : Ctx) (p_s : Str) (p_substr : Str) (K : Int → Heap → Prop) (H : Heap) : Prop :=
  ift ((((List.length p_substr : Int) : Int) == 0) || (p_substr == p_s))
 (K 0 H)
 (ift (((List.length p_substr : Int) : Int) == 1)
 (ixs p_substr 0 fun c4 =>
 c_internal_stringslite_IndexByte C p_s (c4.toNat : Int) (fun r7 H8 =>
 K r7 H8) H)
 (ift (decide (((List.length p_substr : Int) : Int) ≥ (List.length p_s : Int)))
 (K (-1) H)
 (ldI H .i64 (1, 0) fun x10 =>
 ift ((decide (((List.length p_substr : Int) : Int) ≤ x10)) && (decide (((List.length p_s : Int) : Int) ≤ 64)))
 (False)
 (ixs p_substr 0 fun c14 =>
 ixs p_substr 1 fun c17 =>
 lp (α := Int × Int) (0, 0) H (fun x20 J21 H22 =>
 ift (decide ((x20.1 : Int) < (w .i64 ((w .i64 ((List.length p_s : Int) - (List.length p_substr : Int))) + 1))))
 (jn (α := Int) (fun x25 H26 =>
 ixs p_s (w .i64 (x25 + 1)) fun c41 =>
 jn (α := Bool) (fun b44 H54 =>
 ift b44
 (K x25 H54)
 (ldI H54 .i64 (1, 0) fun x56 =>
 jn (α := Bool) (fun b58 H64 =>
 ift b58
 (False)
 (ldI H64 .i64 (1, 0) fun x72 =>
 ift (((decide (((List.length p_substr : Int) : Int) > x72)) && (decide (((w .i64 (x20.2 + 1)) : Int) ≥ (w .i64 (4 + (sShr .i64 (w .i64 (x25 + 1)) 4)))))) && (decide (((w .i64 (x25 + 1)) : Int) < (w .i64 ((w .i64 ((List.length p_s : Int) - (List.length p_substr : Int))) + 1)))))
 (slS p_s (w .i64 (x25 + 1)) (List.length p_s : Int) fun t77 =>
 c_internal_bytealg_IndexRabinKarp_string C t77 p_substr (fun r83 H84 =>
 ift (decide ((r83 : Int) < 0))
 (K (-1) H84)
 (K (w .i64 ((w .i64 (x25 + 1)) + r83)) H84)) H64)
 (J21 ((w .i64 (x25 + 1)), (w .i64 (x20.2 + 1))) H64)))
 (fun J59 => ift (decide (((List.length p_substr : Int) : Int) ≤ x56))
 (c_internal_bytealg_Cutover C (w .i64 (x25 + 1)) (fun r62 H63 =>
 J59 (decide (((w .i64 (x20.2 + 1)) : Int) > r62)) H63) H54)
 (J59 false H54))))
 (fun J45 => ift (((c41.toNat : Int) : Int) == (c17.toNat : Int))
 (slS p_s x25 (w .i64 (x25 + (List.length p_substr : Int))) fun t48 =>
 J45 (t48 == p_substr) H26)
 (J45 false H26)))
 (fun J24 => ixs p_s x20.1 fun c28 =>
 ift (((c28.toNat : Int) : Int) != (c14.toNat : Int))
 (slS p_s (w .i64 (x20.1 + 1)) (w .i64 ((w .i64 ((List.length p_s : Int) - (List.length p_substr : Int))) + 1)) fun t32 =>
 c_internal_stringslite_IndexByte C t32 (c14.toNat : Int) (fun r38 H39 =>
 ift (decide ((r38 : Int) < 0))
 (K (-1) H39)
 (J24 (w .i64 (x20.1 + (w .i64 (r38 + 1)))) H39)) H22)
 (J24 x20.1 H22)))
 (K (-1) H22))))))

theorem ad_internal_stringslite_Index (C : Ctx) (p_s : Str) (p_substr : Str) (K : Int → Heap → Prop) (H : Heap) (h : sh_internal_stringslite_Index C p_s p_substr K H) : c_internal_stringslite_Index C p_s p_substr K H := by
  refine Spec.enter Tryd.func77 rfl Tryd.ntmps77 rfl ?_
  refine GC.sub [(0, sv p_s), (1, sv p_substr)] ⟨rfl, rfl, trivial⟩ ?_
  refine GC.seq ?_
  refine GC.region ?_
  refine GL.val trivial rfl (OV.assign (v := .int .i64 0) rfl) ?_
  refine GL.nil ?_
  refine GC.seq ?_
  refine GC.region ?_
  refine GL.val trivial rfl (OV.move (v := sv p_substr) rfl) ?_
  refine GL.val trivial rfl (OV.lenStr (s := p_substr) rfl rfl) ?_
  refine GL.val trivial rfl (OV.assign (v := .int .i64 (List.length p_substr : Int)) rfl) ?_
  refine GL.nil ?_
  refine GC.seq ?_
  refine GC.block ?_
  refine GC.seq ?_
  refine GC.region ?_
  refine GL.val trivial rfl (OV.move (v := .int .i64 (List.length p_substr : Int)) rfl) ?_
  refine GL.val trivial rfl (OV.ibin (v := .bool (((List.length p_substr : Int) : Int) == 0)) rfl rfl rfl) ?_
  refine GL.val trivial rfl (OV.move (v := .bool (((List.length p_substr : Int) : Int) == 0)) rfl) ?_
  refine GL.cut0 4 [(23, .bool ((((List.length p_substr : Int) : Int) == 0) || (p_substr == p_s))), (0, sv p_s), (1, sv p_substr), (5, .int .i64 (List.length p_substr : Int))] ?_ ?_
  · rcases Bool.eq_false_or_eq_true (((List.length p_substr : Int) : Int) == 0) with hc1 | hc1
    · skip
      refine GL.skip ⟨_, rfl, .inl ⟨_, rfl, hc1⟩⟩ rfl ?_
      refine GL.skip ⟨_, rfl, .inl ⟨_, rfl, hc1⟩⟩ rfl ?_
      refine GL.skip ⟨_, rfl, .inl ⟨_, rfl, hc1⟩⟩ rfl ?_
      refine GL.val trivial rfl (OV.pickT (b := ((List.length p_substr : Int) : Int) == 0) (v := .bool true) rfl hc1 rfl) ?_
      exact GL.jump0 (fun _ _ h => h) () rfl ⟨(by rw [hc1]; rfl), rfl, rfl, rfl, trivial⟩
    · skip
      refine GL.val ⟨_, _, rfl, rfl, hc1⟩ rfl (OV.move (v := sv p_substr) rfl) ?_
      refine GL.val ⟨_, _, rfl, rfl, hc1⟩ rfl (OV.move (v := sv p_s) rfl) ?_
      refine GL.val ⟨_, _, rfl, rfl, hc1⟩ rfl (OV.sbin (a := p_substr) (b := p_s) (v := .bool (p_substr == p_s)) rfl rfl rfl) ?_
      refine GL.val trivial rfl (OV.pickF (b := ((List.length p_substr : Int) : Int) == 0) (v := .bool (p_substr == p_s)) rfl hc1 rfl) ?_
      exact GL.jump0 (fun _ _ h => h) () rfl ⟨(by rw [hc1]; rfl), rfl, rfl, rfl, trivial⟩
  refine GL.val trivial rfl (OV.assign (v := .bool ((((List.length p_substr : Int) : Int) == 0) || (p_substr == p_s))) rfl) ?_
  refine GL.nil ?_
  refine GC.cond (b := (((List.length p_substr : Int) : Int) == 0) || (p_substr == p_s)) rfl (fun hc2 => ?_) (fun hc2 => ?_)
  · replace h := And.left h hc2
    refine GC.seq ?_
    refine GC.region ?_
    refine GL.val trivial rfl (OV.assign (v := .int .i64 0) rfl) ?_
    refine GL.nil ?_
    exact GC.ret (fun _ _ hf hs => post_tmp1 rfl rfl hf hs ⟨0, rfl, h⟩)
  · replace h := And.right h hc2
    refine GC.seq ?_
    refine GC.region ?_
    refine GL.val trivial rfl (OV.move (v := .int .i64 (List.length p_substr : Int)) rfl) ?_
    refine GL.val trivial rfl (OV.ibin (v := .bool (((List.length p_substr : Int) : Int) == 1)) rfl rfl rfl) ?_
    refine GL.val trivial rfl (OV.assign (v := .bool (((List.length p_substr : Int) : Int) == 1)) rfl) ?_
    refine GL.nil ?_
    refine GC.cond (b := ((List.length p_substr : Int) : Int) == 1) rfl (fun hc3 => ?_) (fun hc3 => ?_)
    · replace h := And.left h hc3
      refine GC.seq ?_
      refine GC.region ?_
      refine GL.val trivial rfl (OV.move (v := sv p_s) rfl) ?_
      refine GL.val trivial rfl (OV.move (v := sv p_substr) rfl) ?_
      obtain ⟨c4, ha5, hb6, h⟩ := h
      refine GL.val trivial rfl (OV.indexStr (s := p_substr) rfl rfl rfl ha5 hb6) ?_
      refine GL.call h trivial rfl ok_internal_stringslite_IndexByte (vs := [sv p_s, .int .u8 (c4.toNat : Int)]) rfl ?_
      rintro _ H8 ⟨r7, rfl, h⟩
      refine GL.val trivial rfl (OV.assign (v := .int .i64 r7) rfl) ?_
      refine GL.nil ?_
      exact GC.ret (fun _ _ hf hs => post_tmp1 rfl rfl hf hs ⟨r7, rfl, h⟩)
    · replace h := And.right h hc3
      refine GC.seq ?_
      refine GC.region ?_
      refine GL.val trivial rfl (OV.move (v := .int .i64 (List.length p_substr : Int)) rfl) ?_
      refine GL.val trivial rfl (OV.move (v := sv p_s) rfl) ?_
      refine GL.val trivial rfl (OV.lenStr (s := p_s) rfl rfl) ?_
      refine GL.val trivial rfl (OV.ibin (v := .bool (decide (((List.length p_substr : Int) : Int) ≥ (List.length p_s : Int)))) rfl rfl rfl) ?_
      refine GL.val trivial rfl (OV.assign (v := .bool (decide (((List.length p_substr : Int) : Int) ≥ (List.length p_s : Int)))) rfl) ?_
      refine GL.nil ?_
      refine GC.cond (b := decide (((List.length p_substr : Int) : Int) ≥ (List.length p_s : Int))) rfl (fun hc9 => ?_) (fun hc9 => ?_)
      · replace h := And.left h hc9
        refine GC.seq ?_
        refine GC.region ?_
        refine GL.val trivial rfl (OV.assign (v := .int .i64 (-1)) rfl) ?_
        refine GL.nil ?_
        exact GC.ret (fun _ _ hf hs => post_tmp1 rfl rfl hf hs ⟨(-1), rfl, h⟩)
      · replace h := And.right h hc9
        refine GC.seq ?_
        refine GC.region ?_
        refine GL.val trivial rfl (OV.move (v := .int .i64 (List.length p_substr : Int)) rfl) ?_
        obtain ⟨x10, hr11, h⟩ := h
        refine GL.val trivial rfl (OV.load (p := (1, 0)) rfl rfl hr11) ?_
        refine GL.val trivial rfl (OV.ibin (v := .bool (decide (((List.length p_substr : Int) : Int) ≤ x10))) rfl rfl rfl) ?_
        refine GL.val trivial rfl (OV.move (v := .bool (decide (((List.length p_substr : Int) : Int) ≤ x10))) rfl) ?_
        refine GL.cut0 4 [(44, .bool ((decide (((List.length p_substr : Int) : Int) ≤ x10)) && (decide (((List.length p_s : Int) : Int) ≤ 64)))), (0, sv p_s), (1, sv p_substr), (5, .int .i64 (List.length p_substr : Int))] ?_ ?_
        · rcases Bool.eq_false_or_eq_true (decide (((List.length p_substr : Int) : Int) ≤ x10)) with hc12 | hc12
          · skip
            refine GL.val ⟨_, _, rfl, rfl, hc12⟩ rfl (OV.move (v := sv p_s) rfl) ?_
            refine GL.val ⟨_, _, rfl, rfl, hc12⟩ rfl (OV.lenStr (s := p_s) rfl rfl) ?_
            refine GL.val ⟨_, _, rfl, rfl, hc12⟩ rfl (OV.ibin (v := .bool (decide (((List.length p_s : Int) : Int) ≤ 64))) rfl rfl rfl) ?_
            refine GL.val trivial rfl (OV.pickT (b := decide (((List.length p_substr : Int) : Int) ≤ x10)) (v := .bool (decide (((List.length p_s : Int) : Int) ≤ 64))) rfl hc12 rfl) ?_
            exact GL.jump0 (fun _ _ h => h) () rfl ⟨(by rw [hc12]; rfl), rfl, rfl, rfl, trivial⟩
          · skip
            refine GL.skip ⟨_, rfl, .inl ⟨_, rfl, hc12⟩⟩ rfl ?_
            refine GL.skip ⟨_, rfl, .inl ⟨_, rfl, hc12⟩⟩ rfl ?_
            refine GL.skip ⟨_, rfl, .inl ⟨_, rfl, hc12⟩⟩ rfl ?_
            refine GL.val trivial rfl (OV.pickF (b := decide (((List.length p_substr : Int) : Int) ≤ x10)) (v := .bool false) rfl hc12 rfl) ?_
            exact GL.jump0 (fun _ _ h => h) () rfl ⟨(by rw [hc12]; rfl), rfl, rfl, rfl, trivial⟩
        refine GL.val trivial rfl (OV.assign (v := .bool ((decide (((List.length p_substr : Int) : Int) ≤ x10)) && (decide (((List.length p_s : Int) : Int) ≤ 64)))) rfl) ?_
        refine GL.nil ?_
        refine GC.cond (b := (decide (((List.length p_substr : Int) : Int) ≤ x10)) && (decide (((List.length p_s : Int) : Int) ≤ 64))) rfl (fun hc13 => ?_) (fun hc13 => ?_)
        · replace h := And.left h hc13
          refine GC.seq ?_
          exact GC.never h
        · replace h := And.right h hc13
          refine GC.skip_to (fun _ _ h => h) ?_
          refine GC.seq ?_
          refine GC.region ?_
          refine GL.val trivial rfl (OV.move (v := sv p_substr) rfl) ?_
          obtain ⟨c14, ha15, hb16, h⟩ := h
          refine GL.val trivial rfl (OV.indexStr (s := p_substr) rfl rfl rfl ha15 hb16) ?_
          refine GL.val trivial rfl (OV.assign (v := .int .u8 (c14.toNat : Int)) rfl) ?_
          refine GL.nil ?_
          refine GC.seq ?_
          refine GC.region ?_
          refine GL.val trivial rfl (OV.move (v := sv p_substr) rfl) ?_
          obtain ⟨c17, ha18, hb19, h⟩ := h
          refine GL.val trivial rfl (OV.indexStr (s := p_substr) rfl rfl rfl ha18 hb19) ?_
          refine GL.val trivial rfl (OV.assign (v := .int .u8 (c17.toNat : Int)) rfl) ?_
          refine GL.nil ?_
          refine GC.seq ?_
          refine GC.region ?_
          refine GL.val trivial rfl (OV.assign (v := .int .i64 0) rfl) ?_
          refine GL.nil ?_
          refine GC.seq ?_
          refine GC.region ?_
          refine GL.val trivial rfl (OV.move (v := sv p_s) rfl) ?_
          refine GL.val trivial rfl (OV.lenStr (s := p_s) rfl rfl) ?_
          refine GL.val trivial rfl (OV.move (v := .int .i64 (List.length p_substr : Int)) rfl) ?_
          refine GL.val trivial rfl (OV.ibin (v := .int .i64 (w .i64 ((List.length p_s : Int) - (List.length p_substr : Int)))) rfl rfl rfl) ?_
          refine GL.val trivial rfl (OV.ibin (v := .int .i64 (w .i64 ((w .i64 ((List.length p_s : Int) - (List.length p_substr : Int))) + 1))) rfl rfl rfl) ?_
          refine GL.val trivial rfl (OV.assign (v := .int .i64 (w .i64 ((w .i64 ((List.length p_s : Int) - (List.length p_substr : Int))) + 1))) rfl) ?_
          refine GL.nil ?_
          refine GC.seq ?_
          refine GC.region ?_
          refine GL.val trivial rfl (OV.assign (v := .int .i64 0) rfl) ?_
          refine GL.nil ?_
          refine GC.seq ?_
          refine GC.block ?_
          refine GC.loop (α := Int × Int) h (fun x20 => [(8, .int .i64 x20.1), (10, .int .i64 x20.2), (0, sv p_s), (1, sv p_substr), (5, .int .i64 (List.length p_substr : Int)), (6, .int .u8 (c14.toNat : Int)), (7, .int .u8 (c17.toNat : Int)), (9, .int .i64 (w .i64 ((w .i64 ((List.length p_s : Int) - (List.length p_substr : Int))) + 1)))]) ⟨rfl, rfl, rfl, rfl, rfl, rfl, rfl, rfl, trivial⟩ ?_
          intro x20 H22 J21 h
          refine GC.seq ?_
          refine GC.seq ?_
          refine GC.region ?_
          refine GL.val trivial rfl (OV.move (v := .int .i64 x20.1) rfl) ?_
          refine GL.val trivial rfl (OV.move (v := .int .i64 (w .i64 ((w .i64 ((List.length p_s : Int) - (List.length p_substr : Int))) + 1))) rfl) ?_
          refine GL.val trivial rfl (OV.ibin (v := .bool (decide ((x20.1 : Int) < (w .i64 ((w .i64 ((List.length p_s : Int) - (List.length p_substr : Int))) + 1))))) rfl rfl rfl) ?_
          refine GL.nil ?_
          refine GC.cond (b := decide ((x20.1 : Int) < (w .i64 ((w .i64 ((List.length p_s : Int) - (List.length p_substr : Int))) + 1)))) rfl (fun hc23 => ?_) (fun hc23 => ?_)
          · replace h := And.left h hc23
            refine GC.skip ?_
            refine GC.block ?_
            obtain ⟨J24, h, hR27⟩ := h
            refine GC.join (α := Int) J24 (fun x25 => [(8, .int .i64 x25), (0, sv p_s), (1, sv p_substr), (5, .int .i64 (List.length p_substr : Int)), (6, .int .u8 (c14.toNat : Int)), (7, .int .u8 (c17.toNat : Int)), (9, .int .i64 (w .i64 ((w .i64 ((List.length p_s : Int) - (List.length p_substr : Int))) + 1))), (10, .int .i64 x20.2)]) ?_ ?_
            · skip
              refine GC.seq ?_
              refine GC.region ?_
              refine GL.val trivial rfl (OV.move (v := sv p_s) rfl) ?_
              refine GL.val trivial rfl (OV.move (v := .int .i64 x20.1) rfl) ?_
              obtain ⟨c28, ha29, hb30, h⟩ := h
              refine GL.val trivial rfl (OV.indexStr (s := p_s) rfl rfl rfl ha29 hb30) ?_
              refine GL.val trivial rfl (OV.move (v := .int .u8 (c14.toNat : Int)) rfl) ?_
              refine GL.val trivial rfl (OV.ibin (v := .bool (((c28.toNat : Int) : Int) != (c14.toNat : Int))) rfl rfl rfl) ?_
              refine GL.nil ?_
              refine GC.cond (b := ((c28.toNat : Int) : Int) != (c14.toNat : Int)) rfl (fun hc31 => ?_) (fun hc31 => ?_)
              · replace h := And.left h hc31
                refine GC.seq ?_
                refine GC.region ?_
                refine GL.val trivial rfl (OV.move (v := sv p_s) rfl) ?_
                refine GL.val trivial rfl (OV.move (v := .int .i64 x20.1) rfl) ?_
                refine GL.val trivial rfl (OV.ibin (v := .int .i64 (w .i64 (x20.1 + 1))) rfl rfl rfl) ?_
                refine GL.val trivial rfl (OV.move (v := .int .i64 (w .i64 ((w .i64 ((List.length p_s : Int) - (List.length p_substr : Int))) + 1))) rfl) ?_
                obtain ⟨h33, h34, h35, t32, h36, h⟩ := h
                refine GL.val trivial rfl (OV.sliceStr (s := p_s) h33 h34 h35 h36 rfl rfl rfl rfl rfl rfl) ?_
                refine GL.val trivial rfl (OV.move (v := .int .u8 (c14.toNat : Int)) rfl) ?_
                refine GL.call h trivial rfl ok_internal_stringslite_IndexByte (vs := [sv t32, .int .u8 (c14.toNat : Int)]) rfl ?_
                rintro _ H39 ⟨r38, rfl, h⟩
                refine GL.val trivial rfl (OV.assign (v := .int .i64 r38) rfl) ?_
                refine GL.nil ?_
                refine GC.seq ?_
                refine GC.seq ?_
                refine GC.region ?_
                refine GL.val trivial rfl (OV.move (v := .int .i64 r38) rfl) ?_
                refine GL.val trivial rfl (OV.ibin (v := .bool (decide ((r38 : Int) < 0))) rfl rfl rfl) ?_
                refine GL.nil ?_
                refine GC.cond (b := decide ((r38 : Int) < 0)) rfl (fun hc40 => ?_) (fun hc40 => ?_)
                · replace h := And.left h hc40
                  refine GC.seq ?_
                  refine GC.region ?_
                  refine GL.val trivial rfl (OV.assign (v := .int .i64 (-1)) rfl) ?_
                  refine GL.nil ?_
                  exact GC.ret (fun _ _ hf hs => post_tmp1 rfl rfl hf hs ⟨(-1), rfl, h⟩)
                · replace h := And.right h hc40
                  refine GC.skip ?_
                  refine GC.region ?_
                  refine GL.val trivial rfl (OV.move (v := .int .i64 x20.1) rfl) ?_
                  refine GL.val trivial rfl (OV.move (v := .int .i64 r38) rfl) ?_
                  refine GL.val trivial rfl (OV.ibin (v := .int .i64 (w .i64 (r38 + 1))) rfl rfl rfl) ?_
                  refine GL.val trivial rfl (OV.ibin (v := .int .i64 (w .i64 (x20.1 + (w .i64 (r38 + 1))))) rfl rfl rfl) ?_
                  refine GL.val trivial rfl (OV.assign (v := .int .i64 (w .i64 (x20.1 + (w .i64 (r38 + 1))))) rfl) ?_
                  exact GL.jump (fun _ _ h => h) (w .i64 (x20.1 + (w .i64 (r38 + 1)))) h ⟨rfl, rfl, rfl, rfl, rfl, rfl, rfl, rfl, trivial⟩
              · replace h := And.right h hc31
                exact GC.jump (fun _ _ h => h) x20.1 h ⟨rfl, rfl, rfl, rfl, rfl, rfl, rfl, rfl, trivial⟩
            · intro x25 H26 h
              replace h := hR27 x25 H26 h
              refine GC.seq ?_
              refine GC.seq ?_
              refine GC.region ?_
              refine GL.val trivial rfl (OV.move (v := sv p_s) rfl) ?_
              refine GL.val trivial rfl (OV.move (v := .int .i64 x25) rfl) ?_
              refine GL.val trivial rfl (OV.ibin (v := .int .i64 (w .i64 (x25 + 1))) rfl rfl rfl) ?_
              obtain ⟨c41, ha42, hb43, h⟩ := h
              refine GL.val trivial rfl (OV.indexStr (s := p_s) rfl rfl rfl ha42 hb43) ?_
              refine GL.val trivial rfl (OV.move (v := .int .u8 (c17.toNat : Int)) rfl) ?_
              refine GL.val trivial rfl (OV.ibin (v := .bool (((c41.toNat : Int) : Int) == (c17.toNat : Int))) rfl rfl rfl) ?_
              refine GL.val trivial rfl (OV.move (v := .bool (((c41.toNat : Int) : Int) == (c17.toNat : Int))) rfl) ?_
              obtain ⟨J45, h, hR46⟩ := h
              refine GL.cut (α := Bool) 9 J45 (fun b44 => [(93, .bool b44), (0, sv p_s), (1, sv p_substr), (5, .int .i64 (List.length p_substr : Int)), (6, .int .u8 (c14.toNat : Int)), (7, .int .u8 (c17.toNat : Int)), (8, .int .i64 x25), (9, .int .i64 (w .i64 ((w .i64 ((List.length p_s : Int) - (List.length p_substr : Int))) + 1))), (10, .int .i64 x20.2)]) ?_ ?_
              · rcases Bool.eq_false_or_eq_true (((c41.toNat : Int) : Int) == (c17.toNat : Int)) with hc47 | hc47
                · skip
                  replace h := And.left h hc47
                  refine GL.val ⟨_, _, rfl, rfl, hc47⟩ rfl (OV.move (v := sv p_s) rfl) ?_
                  refine GL.val ⟨_, _, rfl, rfl, hc47⟩ rfl (OV.move (v := .int .i64 x25) rfl) ?_
                  refine GL.val ⟨_, _, rfl, rfl, hc47⟩ rfl (OV.move (v := .int .i64 x25) rfl) ?_
                  refine GL.val ⟨_, _, rfl, rfl, hc47⟩ rfl (OV.move (v := .int .i64 (List.length p_substr : Int)) rfl) ?_
                  refine GL.val ⟨_, _, rfl, rfl, hc47⟩ rfl (OV.ibin (v := .int .i64 (w .i64 (x25 + (List.length p_substr : Int)))) rfl rfl rfl) ?_
                  obtain ⟨h49, h50, h51, t48, h52, h⟩ := h
                  refine GL.val ⟨_, _, rfl, rfl, hc47⟩ rfl (OV.sliceStr (s := p_s) h49 h50 h51 h52 rfl rfl rfl rfl rfl rfl) ?_
                  refine GL.val ⟨_, _, rfl, rfl, hc47⟩ rfl (OV.move (v := sv p_substr) rfl) ?_
                  refine GL.val ⟨_, _, rfl, rfl, hc47⟩ rfl (OV.sbin (a := t48) (b := p_substr) (v := .bool (t48 == p_substr)) rfl rfl rfl) ?_
                  refine GL.val trivial rfl (OV.pickT (b := ((c41.toNat : Int) : Int) == (c17.toNat : Int)) (v := .bool (t48 == p_substr)) rfl hc47 rfl) ?_
                  exact GL.jump (fun _ _ h => h) (t48 == p_substr) h ⟨rfl, rfl, rfl, rfl, rfl, rfl, rfl, rfl, rfl, trivial⟩
                · skip
                  replace h := And.right h hc47
                  refine GL.skip ⟨_, rfl, .inl ⟨_, rfl, hc47⟩⟩ rfl ?_
                  refine GL.skip ⟨_, rfl, .inl ⟨_, rfl, hc47⟩⟩ rfl ?_
                  refine GL.skip ⟨_, rfl, .inl ⟨_, rfl, hc47⟩⟩ rfl ?_
                  refine GL.skip ⟨_, rfl, .inl ⟨_, rfl, hc47⟩⟩ rfl ?_
                  refine GL.skip ⟨_, rfl, .inl ⟨_, rfl, hc47⟩⟩ rfl ?_
                  refine GL.skip ⟨_, rfl, .inl ⟨_, rfl, hc47⟩⟩ rfl ?_
                  refine GL.skip ⟨_, rfl, .inl ⟨_, rfl, hc47⟩⟩ rfl ?_
                  refine GL.skip ⟨_, rfl, .inl ⟨_, rfl, hc47⟩⟩ rfl ?_
                  refine GL.val trivial rfl (OV.pickF (b := ((c41.toNat : Int) : Int) == (c17.toNat : Int)) (v := .bool false) rfl hc47 rfl) ?_
                  exact GL.jump (fun _ _ h => h) false h ⟨rfl, rfl, rfl, rfl, rfl, rfl, rfl, rfl, rfl, trivial⟩
              intro b44 H54 h
              replace h := hR46 b44 H54 h
              refine GL.nil ?_
              refine GC.cond (b := b44) rfl (fun hc55 => ?_) (fun hc55 => ?_)
              · replace h := And.left h hc55
                refine GC.seq ?_
                refine GC.region ?_
                refine GL.val trivial rfl (OV.move (v := .int .i64 x25) rfl) ?_
                refine GL.val trivial rfl (OV.assign (v := .int .i64 x25) rfl) ?_
                refine GL.nil ?_
                exact GC.ret (fun _ _ hf hs => post_tmp1 rfl rfl hf hs ⟨x25, rfl, h⟩)
              · replace h := And.right h hc55
                refine GC.skip ?_
                refine GC.seq ?_
                refine GC.region ?_
                refine GL.val trivial rfl (OV.move (v := .int .i64 x25) rfl) ?_
                refine GL.val trivial rfl (OV.ibin (v := .int .i64 (w .i64 (x25 + 1))) rfl rfl rfl) ?_
                refine GL.val trivial rfl (OV.assign (v := .int .i64 (w .i64 (x25 + 1))) rfl) ?_
                refine GL.nil ?_
                refine GC.seq ?_
                refine GC.region ?_
                refine GL.val trivial rfl (OV.move (v := .int .i64 x20.2) rfl) ?_
                refine GL.val trivial rfl (OV.ibin (v := .int .i64 (w .i64 (x20.2 + 1))) rfl rfl rfl) ?_
                refine GL.val trivial rfl (OV.assign (v := .int .i64 (w .i64 (x20.2 + 1))) rfl) ?_
                refine GL.nil ?_
                refine GC.seq ?_
                refine GC.region ?_
                refine GL.val trivial rfl (OV.move (v := .int .i64 (List.length p_substr : Int)) rfl) ?_
                obtain ⟨x56, hr57, h⟩ := h
                refine GL.val trivial rfl (OV.load (p := (1, 0)) rfl rfl hr57) ?_
                refine GL.val trivial rfl (OV.ibin (v := .bool (decide (((List.length p_substr : Int) : Int) ≤ x56))) rfl rfl rfl) ?_
                refine GL.val trivial rfl (OV.move (v := .bool (decide (((List.length p_substr : Int) : Int) ≤ x56))) rfl) ?_
                obtain ⟨J59, h, hR60⟩ := h
                refine GL.cut (α := Bool) 5 J59 (fun b58 => [(107, .bool b58), (0, sv p_s), (1, sv p_substr), (5, .int .i64 (List.length p_substr : Int)), (6, .int .u8 (c14.toNat : Int)), (7, .int .u8 (c17.toNat : Int)), (8, .int .i64 (w .i64 (x25 + 1))), (9, .int .i64 (w .i64 ((w .i64 ((List.length p_s : Int) - (List.length p_substr : Int))) + 1))), (10, .int .i64 (w .i64 (x20.2 + 1)))]) ?_ ?_
                · rcases Bool.eq_false_or_eq_true (decide (((List.length p_substr : Int) : Int) ≤ x56)) with hc61 | hc61
                  · skip
                    replace h := And.left h hc61
                    refine GL.val ⟨_, _, rfl, rfl, hc61⟩ rfl (OV.move (v := .int .i64 (w .i64 (x20.2 + 1))) rfl) ?_
                    refine GL.val ⟨_, _, rfl, rfl, hc61⟩ rfl (OV.move (v := .int .i64 (w .i64 (x25 + 1))) rfl) ?_
                    refine GL.call h ⟨_, _, rfl, rfl, hc61⟩ rfl ok_internal_bytealg_Cutover (vs := [.int .i64 (w .i64 (x25 + 1))]) rfl ?_
                    rintro _ H63 ⟨r62, rfl, h⟩
                    refine GL.val ⟨_, _, rfl, rfl, hc61⟩ rfl (OV.ibin (v := .bool (decide (((w .i64 (x20.2 + 1)) : Int) > r62))) rfl rfl rfl) ?_
                    refine GL.val trivial rfl (OV.pickT (b := decide (((List.length p_substr : Int) : Int) ≤ x56)) (v := .bool (decide (((w .i64 (x20.2 + 1)) : Int) > r62))) rfl hc61 rfl) ?_
                    exact GL.jump (fun _ _ h => h) (decide (((w .i64 (x20.2 + 1)) : Int) > r62)) h ⟨rfl, rfl, rfl, rfl, rfl, rfl, rfl, rfl, rfl, trivial⟩
                  · skip
                    replace h := And.right h hc61
                    refine GL.skip ⟨_, rfl, .inl ⟨_, rfl, hc61⟩⟩ rfl ?_
                    refine GL.skip ⟨_, rfl, .inl ⟨_, rfl, hc61⟩⟩ rfl ?_
                    refine GL.skip ⟨_, rfl, .inl ⟨_, rfl, hc61⟩⟩ rfl ?_
                    refine GL.skip ⟨_, rfl, .inl ⟨_, rfl, hc61⟩⟩ rfl ?_
                    refine GL.val trivial rfl (OV.pickF (b := decide (((List.length p_substr : Int) : Int) ≤ x56)) (v := .bool false) rfl hc61 rfl) ?_
                    exact GL.jump (fun _ _ h => h) false h ⟨rfl, rfl, rfl, rfl, rfl, rfl, rfl, rfl, rfl, trivial⟩
                intro b58 H64 h
                replace h := hR60 b58 H64 h
                refine GL.nil ?_
                refine GC.cond (b := b58) rfl (fun hc65 => ?_) (fun hc65 => ?_)
                · replace h := And.left h hc65
                  refine GC.seq ?_
                  exact GC.never h
                · replace h := And.right h hc65
                  refine GC.seq ?_
                  refine GC.region ?_
                  refine GL.val trivial rfl (OV.move (v := .int .i64 (List.length p_substr : Int)) rfl) ?_
                  obtain ⟨x72, hr73, h⟩ := h
                  refine GL.val trivial rfl (OV.load (p := (1, 0)) rfl rfl hr73) ?_
                  refine GL.val trivial rfl (OV.ibin (v := .bool (decide (((List.length p_substr : Int) : Int) > x72))) rfl rfl rfl) ?_
                  refine GL.val trivial rfl (OV.move (v := .bool (decide (((List.length p_substr : Int) : Int) > x72))) rfl) ?_
                  refine GL.cut0 6 [(127, .bool ((decide (((List.length p_substr : Int) : Int) > x72)) && (decide (((w .i64 (x20.2 + 1)) : Int) ≥ (w .i64 (4 + (sShr .i64 (w .i64 (x25 + 1)) 4))))))), (0, sv p_s), (1, sv p_substr), (5, .int .i64 (List.length p_substr : Int)), (6, .int .u8 (c14.toNat : Int)), (7, .int .u8 (c17.toNat : Int)), (8, .int .i64 (w .i64 (x25 + 1))), (9, .int .i64 (w .i64 ((w .i64 ((List.length p_s : Int) - (List.length p_substr : Int))) + 1))), (10, .int .i64 (w .i64 (x20.2 + 1)))] ?_ ?_
                  · rcases Bool.eq_false_or_eq_true (decide (((List.length p_substr : Int) : Int) > x72)) with hc74 | hc74
                    · skip
                      refine GL.val ⟨_, _, rfl, rfl, hc74⟩ rfl (OV.move (v := .int .i64 (w .i64 (x20.2 + 1))) rfl) ?_
                      refine GL.val ⟨_, _, rfl, rfl, hc74⟩ rfl (OV.move (v := .int .i64 (w .i64 (x25 + 1))) rfl) ?_
                      refine GL.val ⟨_, _, rfl, rfl, hc74⟩ rfl (OV.shr rfl rfl (by decide)) ?_
                      refine GL.val ⟨_, _, rfl, rfl, hc74⟩ rfl (OV.ibin (v := .int .i64 (w .i64 (4 + (sShr .i64 (w .i64 (x25 + 1)) 4)))) rfl rfl rfl) ?_
                      refine GL.val ⟨_, _, rfl, rfl, hc74⟩ rfl (OV.ibin (v := .bool (decide (((w .i64 (x20.2 + 1)) : Int) ≥ (w .i64 (4 + (sShr .i64 (w .i64 (x25 + 1)) 4)))))) rfl rfl rfl) ?_
                      refine GL.val trivial rfl (OV.pickT (b := decide (((List.length p_substr : Int) : Int) > x72)) (v := .bool (decide (((w .i64 (x20.2 + 1)) : Int) ≥ (w .i64 (4 + (sShr .i64 (w .i64 (x25 + 1)) 4)))))) rfl hc74 rfl) ?_
                      exact GL.jump0 (fun _ _ h => h) () rfl ⟨(by rw [hc74]; rfl), rfl, rfl, rfl, rfl, rfl, rfl, rfl, rfl, trivial⟩
                    · skip
                      refine GL.skip ⟨_, rfl, .inl ⟨_, rfl, hc74⟩⟩ rfl ?_
                      refine GL.skip ⟨_, rfl, .inl ⟨_, rfl, hc74⟩⟩ rfl ?_
                      refine GL.skip ⟨_, rfl, .inl ⟨_, rfl, hc74⟩⟩ rfl ?_
                      refine GL.skip ⟨_, rfl, .inl ⟨_, rfl, hc74⟩⟩ rfl ?_
                      refine GL.skip ⟨_, rfl, .inl ⟨_, rfl, hc74⟩⟩ rfl ?_
                      refine GL.val trivial rfl (OV.pickF (b := decide (((List.length p_substr : Int) : Int) > x72)) (v := .bool false) rfl hc74 rfl) ?_
                      exact GL.jump0 (fun _ _ h => h) () rfl ⟨(by rw [hc74]; rfl), rfl, rfl, rfl, rfl, rfl, rfl, rfl, rfl, trivial⟩
                  refine GL.val trivial rfl (OV.move (v := .bool ((decide (((List.length p_substr : Int) : Int) > x72)) && (decide (((w .i64 (x20.2 + 1)) : Int) ≥ (w .i64 (4 + (sShr .i64 (w .i64 (x25 + 1)) 4))))))) rfl) ?_
                  refine GL.cut0 4 [(132, .bool (((decide (((List.length p_substr : Int) : Int) > x72)) && (decide (((w .i64 (x20.2 + 1)) : Int) ≥ (w .i64 (4 + (sShr .i64 (w .i64 (x25 + 1)) 4)))))) && (decide (((w .i64 (x25 + 1)) : Int) < (w .i64 ((w .i64 ((List.length p_s : Int) - (List.length p_substr : Int))) + 1)))))), (0, sv p_s), (1, sv p_substr), (5, .int .i64 (List.length p_substr : Int)), (6, .int .u8 (c14.toNat : Int)), (7, .int .u8 (c17.toNat : Int)), (8, .int .i64 (w .i64 (x25 + 1))), (9, .int .i64 (w .i64 ((w .i64 ((List.length p_s : Int) - (List.length p_substr : Int))) + 1))), (10, .int .i64 (w .i64 (x20.2 + 1)))] ?_ ?_
                  · rcases Bool.eq_false_or_eq_true ((decide (((List.length p_substr : Int) : Int) > x72)) && (decide (((w .i64 (x20.2 + 1)) : Int) ≥ (w .i64 (4 + (sShr .i64 (w .i64 (x25 + 1)) 4)))))) with hc75 | hc75
                    · skip
                      refine GL.val ⟨_, _, rfl, rfl, hc75⟩ rfl (OV.move (v := .int .i64 (w .i64 (x25 + 1))) rfl) ?_
                      refine GL.val ⟨_, _, rfl, rfl, hc75⟩ rfl (OV.move (v := .int .i64 (w .i64 ((w .i64 ((List.length p_s : Int) - (List.length p_substr : Int))) + 1))) rfl) ?_
                      refine GL.val ⟨_, _, rfl, rfl, hc75⟩ rfl (OV.ibin (v := .bool (decide (((w .i64 (x25 + 1)) : Int) < (w .i64 ((w .i64 ((List.length p_s : Int) - (List.length p_substr : Int))) + 1))))) rfl rfl rfl) ?_
                      refine GL.val trivial rfl (OV.pickT (b := (decide (((List.length p_substr : Int) : Int) > x72)) && (decide (((w .i64 (x20.2 + 1)) : Int) ≥ (w .i64 (4 + (sShr .i64 (w .i64 (x25 + 1)) 4)))))) (v := .bool (decide (((w .i64 (x25 + 1)) : Int) < (w .i64 ((w .i64 ((List.length p_s : Int) - (List.length p_substr : Int))) + 1))))) rfl hc75 rfl) ?_
                      exact GL.jump0 (fun _ _ h => h) () rfl ⟨(by rw [hc75]; rfl), rfl, rfl, rfl, rfl, rfl, rfl, rfl, rfl, trivial⟩
                    · skip
                      refine GL.skip ⟨_, rfl, .inl ⟨_, rfl, hc75⟩⟩ rfl ?_
                      refine GL.skip ⟨_, rfl, .inl ⟨_, rfl, hc75⟩⟩ rfl ?_
                      refine GL.skip ⟨_, rfl, .inl ⟨_, rfl, hc75⟩⟩ rfl ?_
                      refine GL.val trivial rfl (OV.pickF (b := (decide (((List.length p_substr : Int) : Int) > x72)) && (decide (((w .i64 (x20.2 + 1)) : Int) ≥ (w .i64 (4 + (sShr .i64 (w .i64 (x25 + 1)) 4)))))) (v := .bool false) rfl hc75 rfl) ?_
                      exact GL.jump0 (fun _ _ h => h) () rfl ⟨(by rw [hc75]; rfl), rfl, rfl, rfl, rfl, rfl, rfl, rfl, rfl, trivial⟩
                  refine GL.nil ?_
                  refine GC.cond (b := ((decide (((List.length p_substr : Int) : Int) > x72)) && (decide (((w .i64 (x20.2 + 1)) : Int) ≥ (w .i64 (4 + (sShr .i64 (w .i64 (x25 + 1)) 4)))))) && (decide (((w .i64 (x25 + 1)) : Int) < (w .i64 ((w .i64 ((List.length p_s : Int) - (List.length p_substr : Int))) + 1))))) rfl (fun hc76 => ?_) (fun hc76 => ?_)
                  · replace h := And.left h hc76
                    refine GC.seq ?_
                    refine GC.region ?_
                    refine GL.val trivial rfl (OV.move (v := sv p_s) rfl) ?_
                    refine GL.val trivial rfl (OV.move (v := .int .i64 (w .i64 (x25 + 1))) rfl) ?_
                    obtain ⟨h78, h79, h80, t77, h81, h⟩ := h
                    refine GL.val trivial rfl (OV.sliceStr (s := p_s) h78 h79 h80 h81 rfl rfl rfl rfl rfl rfl) ?_
                    refine GL.val trivial rfl (OV.move (v := sv p_substr) rfl) ?_
                    refine GL.call h trivial rfl ok_internal_bytealg_IndexRabinKarp_string (vs := [sv t77, sv p_substr]) rfl ?_
                    rintro _ H84 ⟨r83, rfl, h⟩
                    refine GL.val trivial rfl (OV.assign (v := .int .i64 r83) rfl) ?_
                    refine GL.nil ?_
                    refine GC.seq ?_
                    refine GC.seq ?_
                    refine GC.region ?_
                    refine GL.val trivial rfl (OV.move (v := .int .i64 r83) rfl) ?_
                    refine GL.val trivial rfl (OV.ibin (v := .bool (decide ((r83 : Int) < 0))) rfl rfl rfl) ?_
                    refine GL.nil ?_
                    refine GC.cond (b := decide ((r83 : Int) < 0)) rfl (fun hc85 => ?_) (fun hc85 => ?_)
                    · replace h := And.left h hc85
                      refine GC.seq ?_
                      refine GC.region ?_
                      refine GL.val trivial rfl (OV.assign (v := .int .i64 (-1)) rfl) ?_
                      refine GL.nil ?_
                      exact GC.ret (fun _ _ hf hs => post_tmp1 rfl rfl hf hs ⟨(-1), rfl, h⟩)
                    · replace h := And.right h hc85
                      refine GC.skip ?_
                      refine GC.seq ?_
                      refine GC.region ?_
                      refine GL.val trivial rfl (OV.move (v := .int .i64 (w .i64 (x25 + 1))) rfl) ?_
                      refine GL.val trivial rfl (OV.move (v := .int .i64 r83) rfl) ?_
                      refine GL.val trivial rfl (OV.ibin (v := .int .i64 (w .i64 ((w .i64 (x25 + 1)) + r83))) rfl rfl rfl) ?_
                      refine GL.val trivial rfl (OV.assign (v := .int .i64 (w .i64 ((w .i64 (x25 + 1)) + r83))) rfl) ?_
                      refine GL.nil ?_
                      exact GC.ret (fun _ _ hf hs => post_tmp1 rfl rfl hf hs ⟨(w .i64 ((w .i64 (x25 + 1)) + r83)), rfl, h⟩)
                  · replace h := And.right h hc76
                    exact GC.jump (fun _ _ h => h) ((w .i64 (x25 + 1)), (w .i64 (x20.2 + 1))) h ⟨rfl, rfl, rfl, rfl, rfl, rfl, rfl, rfl, trivial⟩
          · replace h := And.right h hc23
            refine GC.exit_to (fun _ _ h => h) ?_
            refine GC.seq ?_
            refine GC.region ?_
            refine GL.val trivial rfl (OV.assign (v := .int .i64 (-1)) rfl) ?_
            refine GL.nil ?_
            exact GC.ret (fun _ _ hf hs => post_tmp1 rfl rfl hf hs ⟨(-1), rfl, h⟩)

def sh_cmp_isNaN_uint8 (C : Ctx) (p_x : Int) (K : Bool → Heap → Prop) (H : Heap) : Prop :=
  K ((p_x : Int) != p_x) H

theorem ad_cmp_isNaN_uint8 (C : Ctx) (p_x : Int) (K : Bool → Heap → Prop) (H : Heap) (h : sh_cmp_isNaN_uint8 C p_x K H) : c_cmp_isNaN_uint8 C p_x K H := by
  refine Spec.enter Tryd.func83 rfl Tryd.ntmps83 rfl ?_
  refine GC.sub [(0, .int .u8 p_x)] ⟨rfl, trivial⟩ ?_
  refine GC.seq ?_
  refine GC.region ?_
  refine GL.val trivial rfl (OV.assign (v := .bool false) rfl) ?_
  refine GL.nil ?_
  refine GC.seq ?_
  refine GC.region ?_
  refine GL.val trivial rfl (OV.move (v := .int .u8 p_x) rfl) ?_
  refine GL.val trivial rfl (OV.move (v := .int .u8 p_x) rfl) ?_
  refine GL.val trivial rfl (OV.ibin (v := .bool ((p_x : Int) != p_x)) rfl rfl rfl) ?_
  refine GL.val trivial rfl (OV.assign (v := .bool ((p_x : Int) != p_x)) rfl) ?_
  refine GL.nil ?_
  exact GC.ret (fun _ _ hf hs => post_tmp1 rfl rfl hf hs ⟨((p_x : Int) != p_x), rfl, h⟩)

def sh_strings_HasPrefix (C : Ctx) (p_s : Str) (p_prefix : Str) (K : Bool → Heap → Prop) (H : Heap) : Prop :=
  c_internal_stringslite_HasPrefix C p_s p_prefix (fun r1 H2 =>
 K r1 H2) H

theorem ad_strings_HasPrefix (C : Ctx) (p_s : Str) (p_prefix : Str) (K : Bool → Heap → Prop) (H : Heap) (h : sh_strings_HasPrefix C p_s p_prefix K H) : c_strings_HasPrefix C p_s p_prefix K H := by
  refine Spec.enter Tryd.func84 rfl Tryd.ntmps84 rfl ?_
  refine GC.sub [(0, sv p_s), (1, sv p_prefix)] ⟨rfl, rfl, trivial⟩ ?_
  refine GC.seq ?_
  refine GC.region ?_
  refine GL.val trivial rfl (OV.assign (v := .bool false) rfl) ?_
  refine GL.nil ?_
  refine GC.seq ?_
  refine GC.region ?_
  refine GL.val trivial rfl (OV.move (v := sv p_s) rfl) ?_
  refine GL.val trivial rfl (OV.move (v := sv p_prefix) rfl) ?_
  refine GL.call h trivial rfl ok_internal_stringslite_HasPrefix (vs := [sv p_s, sv p_prefix]) rfl ?_
  rintro _ H2 ⟨r1, rfl, h⟩
  refine GL.val trivial rfl (OV.assign (v := .bool r1) rfl) ?_
  refine GL.nil ?_
  exact GC.ret (fun _ _ hf hs => post_tmp1 rfl rfl hf hs ⟨r1, rfl, h⟩)

def sh_cmp_Compare_int (C : Ctx) (p_x : Int) (p_y : Int) (K : Int → Heap → Prop) (H : Heap) : Prop :=
  c_cmp_isNaN_int C p_x (fun r1 H2 =>
 c_cmp_isNaN_int C p_y (fun r3 H4 =>
 ift r1
 (ift r3
 (K 0 H4)
 (K (-1) H4))
 (ift r3
 (K 1 H4)
 (ift (decide ((p_x : Int) < p_y))
 (K (-1) H4)
 (ift (decide ((p_x : Int) > p_y))
 (K 1 H4)
 (K 0 H4))))) H2) H

theorem ad_cmp_Compare_int (C : Ctx) (p_x : Int) (p_y : Int) (K : Int → Heap → Prop) (H : Heap) (h : sh_cmp_Compare_int C p_x p_y K H) : c_cmp_Compare_int C p_x p_y K H := by
  refine Spec.enter Tryd.func85 rfl Tryd.ntmps85 rfl ?_
  refine GC.sub [(0, .int .i64 p_x), (1, .int .i64 p_y)] ⟨rfl, rfl, trivial⟩ ?_
  refine GC.seq ?_
  refine GC.region ?_
  refine GL.val trivial rfl (OV.assign (v := .int .i64 0) rfl) ?_
  refine GL.nil ?_
  refine GC.seq ?_
  refine GC.region ?_
  refine GL.val trivial rfl (OV.move (v := .int .i64 p_x) rfl) ?_
  refine GL.call h trivial rfl ok_cmp_isNaN_int (vs := [.int .i64 p_x]) rfl ?_
  rintro _ H2 ⟨r1, rfl, h⟩
  refine GL.val trivial rfl (OV.assign (v := .bool r1) rfl) ?_
  refine GL.nil ?_
  refine GC.seq ?_
  refine GC.region ?_
  refine GL.val trivial rfl (OV.move (v := .int .i64 p_y) rfl) ?_
  refine GL.call h trivial rfl ok_cmp_isNaN_int (vs := [.int .i64 p_y]) rfl ?_
  rintro _ H4 ⟨r3, rfl, h⟩
  refine GL.val trivial rfl (OV.assign (v := .bool r3) rfl) ?_
  refine GL.nil ?_
  refine GC.seq ?_
  refine GC.seq ?_
  refine GC.region ?_
  refine GL.val trivial rfl (OV.move (v := .bool r1) rfl) ?_
  refine GL.nil ?_
  refine GC.cond (b := r1) rfl (fun hc5 => ?_) (fun hc5 => ?_)
  · replace h := And.left h hc5
    refine GC.seq ?_
    refine GC.seq ?_
    refine GC.region ?_
    refine GL.val trivial rfl (OV.move (v := .bool r3) rfl) ?_
    refine GL.nil ?_
    refine GC.cond (b := r3) rfl (fun hc6 => ?_) (fun hc6 => ?_)
    · replace h := And.left h hc6
      refine GC.seq ?_
      refine GC.region ?_
      refine GL.val trivial rfl (OV.assign (v := .int .i64 0) rfl) ?_
      refine GL.nil ?_
      exact GC.ret (fun _ _ hf hs => post_tmp1 rfl rfl hf hs ⟨0, rfl, h⟩)
    · replace h := And.right h hc6
      refine GC.skip ?_
      refine GC.seq ?_
      refine GC.region ?_
      refine GL.val trivial rfl (OV.assign (v := .int .i64 (-1)) rfl) ?_
      refine GL.nil ?_
      exact GC.ret (fun _ _ hf hs => post_tmp1 rfl rfl hf hs ⟨(-1), rfl, h⟩)
  · replace h := And.right h hc5
    refine GC.skip ?_
    refine GC.seq ?_
    refine GC.seq ?_
    refine GC.region ?_
    refine GL.val trivial rfl (OV.move (v := .bool r3) rfl) ?_
    refine GL.nil ?_
    refine GC.cond (b := r3) rfl (fun hc7 => ?_) (fun hc7 => ?_)
    · replace h := And.left h hc7
      refine GC.seq ?_
      refine GC.region ?_
      refine GL.val trivial rfl (OV.assign (v := .int .i64 1) rfl) ?_
      refine GL.nil ?_
      exact GC.ret (fun _ _ hf hs => post_tmp1 rfl rfl hf hs ⟨1, rfl, h⟩)
    · replace h := And.right h hc7
      refine GC.skip ?_
      refine GC.seq ?_
      refine GC.seq ?_
      refine GC.region ?_
      refine GL.val trivial rfl (OV.move (v := .int .i64 p_x) rfl) ?_
      refine GL.val trivial rfl (OV.move (v := .int .i64 p_y) rfl) ?_
      refine GL.val trivial rfl (OV.ibin (v := .bool (decide ((p_x : Int) < p_y))) rfl rfl rfl) ?_
      refine GL.nil ?_
      refine GC.cond (b := decide ((p_x : Int) < p_y)) rfl (fun hc8 => ?_) (fun hc8 => ?_)
      · replace h := And.left h hc8
        refine GC.seq ?_
        refine GC.region ?_
        refine GL.val trivial rfl (OV.assign (v := .int .i64 (-1)) rfl) ?_
        refine GL.nil ?_
        exact GC.ret (fun _ _ hf hs => post_tmp1 rfl rfl hf hs ⟨(-1), rfl, h⟩)
      · replace h := And.right h hc8
        refine GC.skip ?_
        refine GC.seq ?_
        refine GC.seq ?_
        refine GC.region ?_
        refine GL.val trivial rfl (OV.move (v := .int .i64 p_x) rfl) ?_
        refine GL.val trivial rfl (OV.move (v := .int .i64 p_y) rfl) ?_
        refine GL.val trivial rfl (OV.ibin (v := .bool (decide ((p_x : Int) > p_y))) rfl rfl rfl) ?_
        refine GL.nil ?_
        refine GC.cond (b := decide ((p_x : Int) > p_y)) rfl (fun hc9 => ?_) (fun hc9 => ?_)
        · replace h := And.left h hc9
          refine GC.seq ?_
          refine GC.region ?_
          refine GL.val trivial rfl (OV.assign (v := .int .i64 1) rfl) ?_
          refine GL.nil ?_
          exact GC.ret (fun _ _ hf hs => post_tmp1 rfl rfl hf hs ⟨1, rfl, h⟩)
        · replace h := And.right h hc9
          refine GC.skip ?_
          refine GC.seq ?_
          refine GC.region ?_
          refine GL.val trivial rfl (OV.assign (v := .int .i64 0) rfl) ?_
          refine GL.nil ?_
          exact GC.ret (fun _ _ hf hs => post_tmp1 rfl rfl hf hs ⟨0, rfl, h⟩)

def sh_cmp_isNaN_string (C : Ctx) (p_x : Str) (K : Bool → Heap → Prop) (H : Heap) : Prop :=
  K (!(p_x == p_x)) H

theorem ad_cmp_isNaN_string (C : Ctx) (p_x : Str) (K : Bool → Heap → Prop) (H : Heap) (h : sh_cmp_isNaN_string C p_x K H) : c_cmp_isNaN_string C p_x K H := by
  refine Spec.enter Tryd.func86 rfl Tryd.ntmps86 rfl ?_
  refine GC.sub [(0, sv p_x)] ⟨rfl, trivial⟩ ?_
  refine GC.seq ?_
  refine GC.region ?_
  refine GL.val trivial rfl (OV.assign (v := .bool false) rfl) ?_
  refine GL.nil ?_
  refine GC.seq ?_
  refine GC.region ?_
  refine GL.val trivial rfl (OV.move (v := sv p_x) rfl) ?_
  refine GL.val trivial rfl (OV.move (v := sv p_x) rfl) ?_
  refine GL.val trivial rfl (OV.sbin (a := p_x) (b := p_x) (v := .bool (!(p_x == p_x))) rfl rfl rfl) ?_
  refine GL.val trivial rfl (OV.assign (v := .bool (!(p_x == p_x))) rfl) ?_
  refine GL.nil ?_
  exact GC.ret (fun _ _ hf hs => post_tmp1 rfl rfl hf hs ⟨(!(p_x == p_x)), rfl, h⟩)

def sh_cmp_isNaN_int64 (C : Ctx) (p_x : Int) (K : Bool → Heap → Prop) (H : Heap) : Prop :=
  K ((p_x : Int) != p_x) H

theorem ad_cmp_isNaN_int64 (C : Ctx) (p_x : Int) (K : Bool → Heap → Prop) (H : Heap) (h : sh_cmp_isNaN_int64 C p_x K H) : c_cmp_isNaN_int64 C p_x K H := by
  refine Spec.enter Tryd.func87 rfl Tryd.ntmps87 rfl ?_
  refine GC.sub [(0, .int .i64 p_x)] ⟨rfl, trivial⟩ ?_
  refine GC.seq ?_
  refine GC.region ?_
  refine GL.val trivial rfl (OV.assign (v := .bool false) rfl) ?_
  refine GL.nil ?_
  refine GC.seq ?_
  refine GC.region ?_
  refine GL.val trivial rfl (OV.move (v := .int .i64 p_x) rfl) ?_
  refine GL.val trivial rfl (OV.move (v := .int .i64 p_x) rfl) ?_
  refine GL.val trivial rfl (OV.ibin (v := .bool ((p_x : Int) != p_x)) rfl rfl rfl) ?_
  refine GL.val trivial rfl (OV.assign (v := .bool ((p_x : Int) != p_x)) rfl) ?_
  refine GL.nil ?_
  exact GC.ret (fun _ _ hf hs => post_tmp1 rfl rfl hf hs ⟨((p_x : Int) != p_x), rfl, h⟩)

def sh_slices_rotateCmpFunc_api_Value (C : Ctx) (p_data : Sl) (p_a : Int) (p_m : Int) (p_b : Int) (p_cmp : Value) (K : Heap → Prop) (H : Heap) : Prop :=
  lp (α := Int × Int) ((w .i64 (p_m - p_a)), (w .i64 (p_b - p_m))) H (fun x1 J2 H3 =>
 ift ((x1.1 : Int) != x1.2)
 (ift (decide ((x1.1 : Int) > x1.2))
 (c_slices_swapRangeCmpFunc_api_Value C p_data (w .i64 (p_m - x1.1)) p_m x1.2 p_cmp (fun H6 =>
 J2 ((w .i64 (x1.1 - x1.2)), x1.2) H6) H3)
 (c_slices_swapRangeCmpFunc_api_Value C p_data (w .i64 (p_m - x1.1)) (w .i64 ((w .i64 (p_m + x1.2)) - x1.1)) x1.1 p_cmp (fun H7 =>
 J2 (x1.1, (w .i64 (x1.2 - x1.1))) H7) H3))
 (c_slices_swapRangeCmpFunc_api_Value C p_data (w .i64 (p_m - x1.1)) p_m x1.1 p_cmp (fun H8 =>
 K H8) H3))

theorem ad_slices_rotateCmpFunc_api_Value (C : Ctx) (p_data : Sl) (p_a : Int) (p_m : Int) (p_b : Int) (p_cmp : Value) (K : Heap → Prop) (H : Heap) (h : sh_slices_rotateCmpFunc_api_Value C p_data p_a p_m p_b p_cmp K H) : c_slices_rotateCmpFunc_api_Value C p_data p_a p_m p_b p_cmp K H := by
  refine Spec.enter Tryd.func88 rfl Tryd.ntmps88 rfl ?_
  refine GC.sub [(0, slv p_data), (1, .int .i64 p_a), (2, .int .i64 p_m), (3, .int .i64 p_b), (4, p_cmp)] ⟨rfl, rfl, rfl, rfl, rfl, trivial⟩ ?_
  refine GC.seq ?_
  refine GC.region ?_
  refine GL.val trivial rfl (OV.move (v := .int .i64 p_m) rfl) ?_
  refine GL.val trivial rfl (OV.move (v := .int .i64 p_a) rfl) ?_
  refine GL.val trivial rfl (OV.ibin (v := .int .i64 (w .i64 (p_m - p_a))) rfl rfl rfl) ?_
  refine GL.val trivial rfl (OV.assign (v := .int .i64 (w .i64 (p_m - p_a))) rfl) ?_
  refine GL.nil ?_
  refine GC.seq ?_
  refine GC.region ?_
  refine GL.val trivial rfl (OV.move (v := .int .i64 p_b) rfl) ?_
  refine GL.val trivial rfl (OV.move (v := .int .i64 p_m) rfl) ?_
  refine GL.val trivial rfl (OV.ibin (v := .int .i64 (w .i64 (p_b - p_m))) rfl rfl rfl) ?_
  refine GL.val trivial rfl (OV.assign (v := .int .i64 (w .i64 (p_b - p_m))) rfl) ?_
  refine GL.nil ?_
  refine GC.seq ?_
  refine GC.block ?_
  refine GC.loop (α := Int × Int) h (fun x1 => [(10, .int .i64 x1.1), (11, .int .i64 x1.2), (0, slv p_data), (2, .int .i64 p_m), (4, p_cmp)]) ⟨rfl, rfl, rfl, rfl, rfl, trivial⟩ ?_
  intro x1 H3 J2 h
  refine GC.seq ?_
  refine GC.seq ?_
  refine GC.region ?_
  refine GL.val trivial rfl (OV.move (v := .int .i64 x1.1) rfl) ?_
  refine GL.val trivial rfl (OV.move (v := .int .i64 x1.2) rfl) ?_
  refine GL.val trivial rfl (OV.ibin (v := .bool ((x1.1 : Int) != x1.2)) rfl rfl rfl) ?_
  refine GL.nil ?_
  refine GC.cond (b := (x1.1 : Int) != x1.2) rfl (fun hc4 => ?_) (fun hc4 => ?_)
  · replace h := And.left h hc4
    refine GC.skip ?_
    refine GC.block ?_
    refine GC.seq ?_
    refine GC.region ?_
    refine GL.val trivial rfl (OV.move (v := .int .i64 x1.1) rfl) ?_
    refine GL.val trivial rfl (OV.move (v := .int .i64 x1.2) rfl) ?_
    refine GL.val trivial rfl (OV.ibin (v := .bool (decide ((x1.1 : Int) > x1.2))) rfl rfl rfl) ?_
    refine GL.nil ?_
    refine GC.cond (b := decide ((x1.1 : Int) > x1.2)) rfl (fun hc5 => ?_) (fun hc5 => ?_)
    · replace h := And.left h hc5
      refine GC.seq ?_
      refine GC.region ?_
      refine GL.val trivial rfl (OV.move (v := slv p_data) rfl) ?_
      refine GL.val trivial rfl (OV.move (v := .int .i64 p_m) rfl) ?_
      refine GL.val trivial rfl (OV.move (v := .int .i64 x1.1) rfl) ?_
      refine GL.val trivial rfl (OV.ibin (v := .int .i64 (w .i64 (p_m - x1.1))) rfl rfl rfl) ?_
      refine GL.val trivial rfl (OV.move (v := .int .i64 p_m) rfl) ?_
      refine GL.val trivial rfl (OV.move (v := .int .i64 x1.2) rfl) ?_
      refine GL.val trivial rfl (OV.move (v := p_cmp) rfl) ?_
      refine GL.call h trivial rfl ok_slices_swapRangeCmpFunc_api_Value (vs := [slv p_data, .int .i64 (w .i64 (p_m - x1.1)), .int .i64 p_m, .int .i64 x1.2, p_cmp]) rfl ?_
      rintro _ H6 ⟨rfl, h⟩
      refine GL.nil ?_
      refine GC.region ?_
      refine GL.val trivial rfl (OV.move (v := .int .i64 x1.1) rfl) ?_
      refine GL.val trivial rfl (OV.move (v := .int .i64 x1.2) rfl) ?_
      refine GL.val trivial rfl (OV.ibin (v := .int .i64 (w .i64 (x1.1 - x1.2))) rfl rfl rfl) ?_
      refine GL.val trivial rfl (OV.assign (v := .int .i64 (w .i64 (x1.1 - x1.2))) rfl) ?_
      exact GL.jump (fun _ _ h => h) ((w .i64 (x1.1 - x1.2)), x1.2) h ⟨rfl, rfl, rfl, rfl, rfl, trivial⟩
    · replace h := And.right h hc5
      refine GC.seq ?_
      refine GC.region ?_
      refine GL.val trivial rfl (OV.move (v := slv p_data) rfl) ?_
      refine GL.val trivial rfl (OV.move (v := .int .i64 p_m) rfl) ?_
      refine GL.val trivial rfl (OV.move (v := .int .i64 x1.1) rfl) ?_
      refine GL.val trivial rfl (OV.ibin (v := .int .i64 (w .i64 (p_m - x1.1))) rfl rfl rfl) ?_
      refine GL.val trivial rfl (OV.move (v := .int .i64 p_m) rfl) ?_
      refine GL.val trivial rfl (OV.move (v := .int .i64 x1.2) rfl) ?_
      refine GL.val trivial rfl (OV.ibin (v := .int .i64 (w .i64 (p_m + x1.2))) rfl rfl rfl) ?_
      refine GL.val trivial rfl (OV.move (v := .int .i64 x1.1) rfl) ?_
      refine GL.val trivial rfl (OV.ibin (v := .int .i64 (w .i64 ((w .i64 (p_m + x1.2)) - x1.1))) rfl rfl rfl) ?_
      refine GL.val trivial rfl (OV.move (v := .int .i64 x1.1) rfl) ?_
      refine GL.val trivial rfl (OV.move (v := p_cmp) rfl) ?_
      refine GL.call h trivial rfl ok_slices_swapRangeCmpFunc_api_Value (vs := [slv p_data, .int .i64 (w .i64 (p_m - x1.1)), .int .i64 (w .i64 ((w .i64 (p_m + x1.2)) - x1.1)), .int .i64 x1.1, p_cmp]) rfl ?_
      rintro _ H7 ⟨rfl, h⟩
      refine GL.nil ?_
      refine GC.region ?_
      refine GL.val trivial rfl (OV.move (v := .int .i64 x1.2) rfl) ?_
      refine GL.val trivial rfl (OV.move (v := .int .i64 x1.1) rfl) ?_
      refine GL.val trivial rfl (OV.ibin (v := .int .i64 (w .i64 (x1.2 - x1.1))) rfl rfl rfl) ?_
      refine GL.val trivial rfl (OV.assign (v := .int .i64 (w .i64 (x1.2 - x1.1))) rfl) ?_
      exact GL.jump (fun _ _ h => h) (x1.1, (w .i64 (x1.2 - x1.1))) h ⟨rfl, rfl, rfl, rfl, rfl, trivial⟩
  · replace h := And.right h hc4
    refine GC.exit_to (fun _ _ h => h) ?_
    refine GC.region ?_
    refine GL.val trivial rfl (OV.move (v := slv p_data) rfl) ?_
    refine GL.val trivial rfl (OV.move (v := .int .i64 p_m) rfl) ?_
    refine GL.val trivial rfl (OV.move (v := .int .i64 x1.1) rfl) ?_
    refine GL.val trivial rfl (OV.ibin (v := .int .i64 (w .i64 (p_m - x1.1))) rfl rfl rfl) ?_
    refine GL.val trivial rfl (OV.move (v := .int .i64 p_m) rfl) ?_
    refine GL.val trivial rfl (OV.move (v := .int .i64 x1.1) rfl) ?_
    refine GL.val trivial rfl (OV.move (v := p_cmp) rfl) ?_
    refine GL.call h trivial rfl ok_slices_swapRangeCmpFunc_api_Value (vs := [slv p_data, .int .i64 (w .i64 (p_m - x1.1)), .int .i64 p_m, .int .i64 x1.1, p_cmp]) rfl ?_
    rintro _ H8 ⟨rfl, h⟩
    exact GL.ends (fun _ _ hf hs => post_tmp0 rfl hf hs ⟨rfl, h⟩)

def sh_internal_stringslite_HasPrefix (C : Ctx) (p_s : Str) (p_prefix : Str) (K : Bool → Heap → Prop) (H : Heap) : Prop :=
  jn (α := Bool) (fun b1 H11 =>
 K b1 H11)
 (fun J2 => ift (decide (((List.length p_s : Int) : Int) ≥ (List.length p_prefix : Int)))
 (slS p_s 0 (List.length p_prefix : Int) fun t5 =>
 J2 (t5 == p_prefix) H)
 (J2 false H))

theorem ad_internal_stringslite_HasPrefix (C : Ctx) (p_s : Str) (p_prefix : Str) (K : Bool → Heap → Prop) (H : Heap) (h : sh_internal_stringslite_HasPrefix C p_s p_prefix K H) : c_internal_stringslite_HasPrefix C p_s p_prefix K H := by
  refine Spec.enter Tryd.func89 rfl Tryd.ntmps89 rfl ?_
  refine GC.sub [(0, sv p_s), (1, sv p_prefix)] ⟨rfl, rfl, trivial⟩ ?_
  refine GC.seq ?_
  refine GC.region ?_
  refine GL.val trivial rfl (OV.assign (v := .bool false) rfl) ?_
  refine GL.nil ?_
  refine GC.seq ?_
  refine GC.region ?_
  refine GL.val trivial rfl (OV.move (v := sv p_s) rfl) ?_
  refine GL.val trivial rfl (OV.lenStr (s := p_s) rfl rfl) ?_
  refine GL.val trivial rfl (OV.move (v := sv p_prefix) rfl) ?_
  refine GL.val trivial rfl (OV.lenStr (s := p_prefix) rfl rfl) ?_
  refine GL.val trivial rfl (OV.ibin (v := .bool (decide (((List.length p_s : Int) : Int) ≥ (List.length p_prefix : Int)))) rfl rfl rfl) ?_
  refine GL.val trivial rfl (OV.move (v := .bool (decide (((List.length p_s : Int) : Int) ≥ (List.length p_prefix : Int)))) rfl) ?_
  obtain ⟨J2, h, hR3⟩ := h
  refine GL.cut (α := Bool) 7 J2 (fun b1 => [(17, .bool b1)]) ?_ ?_
  · rcases Bool.eq_false_or_eq_true (decide (((List.length p_s : Int) : Int) ≥ (List.length p_prefix : Int))) with hc4 | hc4
    · skip
      replace h := And.left h hc4
      refine GL.val ⟨_, _, rfl, rfl, hc4⟩ rfl (OV.move (v := sv p_s) rfl) ?_
      refine GL.val ⟨_, _, rfl, rfl, hc4⟩ rfl (OV.move (v := sv p_prefix) rfl) ?_
      refine GL.val ⟨_, _, rfl, rfl, hc4⟩ rfl (OV.lenStr (s := p_prefix) rfl rfl) ?_
      obtain ⟨h6, h7, h8, t5, h9, h⟩ := h
      refine GL.val ⟨_, _, rfl, rfl, hc4⟩ rfl (OV.sliceStr (s := p_s) h6 h7 h8 h9 rfl rfl rfl rfl rfl rfl) ?_
      refine GL.val ⟨_, _, rfl, rfl, hc4⟩ rfl (OV.move (v := sv p_prefix) rfl) ?_
      refine GL.val ⟨_, _, rfl, rfl, hc4⟩ rfl (OV.sbin (a := t5) (b := p_prefix) (v := .bool (t5 == p_prefix)) rfl rfl rfl) ?_
      refine GL.val trivial rfl (OV.pickT (b := decide (((List.length p_s : Int) : Int) ≥ (List.length p_prefix : Int))) (v := .bool (t5 == p_prefix)) rfl hc4 rfl) ?_
      exact GL.jump (fun _ _ h => h) (t5 == p_prefix) h ⟨rfl, trivial⟩
    · skip
      replace h := And.right h hc4
      refine GL.skip ⟨_, rfl, .inl ⟨_, rfl, hc4⟩⟩ rfl ?_
      refine GL.skip ⟨_, rfl, .inl ⟨_, rfl, hc4⟩⟩ rfl ?_
      refine GL.skip ⟨_, rfl, .inl ⟨_, rfl, hc4⟩⟩ rfl ?_
      refine GL.skip ⟨_, rfl, .inl ⟨_, rfl, hc4⟩⟩ rfl ?_
      refine GL.skip ⟨_, rfl, .inl ⟨_, rfl, hc4⟩⟩ rfl ?_
      refine GL.skip ⟨_, rfl, .inl ⟨_, rfl, hc4⟩⟩ rfl ?_
      refine GL.val trivial rfl (OV.pickF (b := decide (((List.length p_s : Int) : Int) ≥ (List.length p_prefix : Int))) (v := .bool false) rfl hc4 rfl) ?_
      exact GL.jump (fun _ _ h => h) false h ⟨rfl, trivial⟩
  intro b1 H11 h
  replace h := hR3 b1 H11 h
  refine GL.val trivial rfl (OV.assign (v := .bool b1) rfl) ?_
  refine GL.nil ?_
  exact GC.ret (fun _ _ hf hs => post_tmp1 rfl rfl hf hs ⟨b1, rfl, h⟩)

def sh_strings_asciiSet_contains (C : Ctx) (p_as : Option (Nat × Nat)) (p_c : Int) (K : Bool → Heap → Prop) (H : Heap) : Prop :=
  nck p_as fun p1 =>
 ixr p1 256 p_c <|
 ldB H (p1.1, p1.2 + (p_c : Int).toNat * 1) fun x5 =>
 K x5 H

theorem ad_strings_asciiSet_contains (C : Ctx) (p_as : Option (Nat × Nat)) (p_c : Int) (K : Bool → Heap → Prop) (H : Heap) (h : sh_strings_asciiSet_contains C p_as p_c K H) : c_strings_asciiSet_contains C p_as p_c K H := by
  refine Spec.enter Tryd.func90 rfl Tryd.ntmps90 rfl ?_
  refine GC.sub [(0, pv p_as), (1, .int .u8 p_c)] ⟨rfl, rfl, trivial⟩ ?_
  refine GC.seq ?_
  refine GC.region ?_
  refine GL.val trivial rfl (OV.assign (v := .bool false) rfl) ?_
  refine GL.nil ?_
  refine GC.seq ?_
  refine GC.region ?_
  refine GL.val trivial rfl (OV.move (v := pv p_as) rfl) ?_
  refine GL.val trivial rfl (OV.move (v := .int .u8 p_c) rfl) ?_
  obtain ⟨p1, hp2, h⟩ := h
  refine GL.val trivial rfl (OV.nilCheck (q := p_as) rfl hp2) ?_
  obtain ⟨ha3, hb4, h⟩ := h
  refine GL.val trivial rfl (OV.indexAddrA (p := p1) rfl rfl rfl rfl ha3 hb4) ?_
  obtain ⟨x5, hr6, h⟩ := h
  refine GL.val trivial rfl (OV.load (p := (p1.1, p1.2 + (p_c : Int).toNat * 1)) rfl rfl hr6) ?_
  refine GL.val trivial rfl (OV.assign (v := .bool x5) rfl) ?_
  refine GL.nil ?_
  exact GC.ret (fun _ _ hf hs => post_tmp1 rfl rfl hf hs ⟨x5, rfl, h⟩)

end Sx
end

noncomputable section
set_option linter.unusedVariables false
set_option maxRecDepth 100000
namespace Sx
open Go Go.Proofs
def sh_internal_stringslite_IndexByte (C : Ctx) (p_s : Str) (p_c : Int) (K : Int → Heap → Prop) (H : Heap) : Prop :=
  K (idxB p_s p_c) H

theorem ad_internal_stringslite_IndexByte (C : Ctx) (p_s : Str) (p_c : Int) (K : Int → Heap → Prop) (H : Heap) (h : sh_internal_stringslite_IndexByte C p_s p_c K H) : c_internal_stringslite_IndexByte C p_s p_c K H := by
  refine Spec.enter Tryd.func94 rfl Tryd.ntmps94 rfl ?_
  refine GC.sub [(0, sv p_s), (1, .int .u8 p_c)] ⟨rfl, rfl, trivial⟩ ?_
  refine GC.seq ?_
  refine GC.region ?_
  refine GL.val trivial rfl (OV.assign (v := .int .i64 0) rfl) ?_
  refine GL.nil ?_
  refine GC.seq ?_
  refine GC.region ?_
  refine GL.val trivial rfl (OV.move (v := sv p_s) rfl) ?_
  refine GL.val trivial rfl (OV.move (v := .int .u8 p_c) rfl) ?_
  refine GL.val trivial rfl (OV.ext ext_internal_bytealg_IndexByteString (vs := [sv p_s, .int .u8 p_c]) (v := .int .i64 (idxB p_s p_c)) rfl (fun w => run_idxB _ _ w)) ?_
  refine GL.val trivial rfl (OV.assign (v := .int .i64 (idxB p_s p_c)) rfl) ?_
  refine GL.nil ?_
  exact GC.ret (fun _ _ hf hs => post_tmp1 rfl rfl hf hs ⟨(idxB p_s p_c), rfl, h⟩)

def sh_cmp_isNaN_int (C : Ctx) (p_x : Int) (K : Bool → Heap → Prop) (H : Heap) : Prop :=
  K ((p_x : Int) != p_x) H

theorem ad_cmp_isNaN_int (C : Ctx) (p_x : Int) (K : Bool → Heap → Prop) (H : Heap) (h : sh_cmp_isNaN_int C p_x K H) : c_cmp_isNaN_int C p_x K H := by
  refine Spec.enter Tryd.func100 rfl Tryd.ntmps100 rfl ?_
  refine GC.sub [(0, .int .i64 p_x)] ⟨rfl, trivial⟩ ?_
  refine GC.seq ?_
  refine GC.region ?_
  refine GL.val trivial rfl (OV.assign (v := .bool false) rfl) ?_
  refine GL.nil ?_
  refine GC.seq ?_
  refine GC.region ?_
  refine GL.val trivial rfl (OV.move (v := .int .i64 p_x) rfl) ?_
  refine GL.val trivial rfl (OV.move (v := .int .i64 p_x) rfl) ?_
  refine GL.val trivial rfl (OV.ibin (v := .bool ((p_x : Int) != p_x)) rfl rfl rfl) ?_
  refine GL.val trivial rfl (OV.assign (v := .bool ((p_x : Int) != p_x)) rfl) ?_
  refine GL.nil ?_
  exact GC.ret (fun _ _ hf hs => post_tmp1 rfl rfl hf hs ⟨((p_x : Int) != p_x), rfl, h⟩)

def sh_slices_swapRangeCmpFunc_api_Value (C : Ctx) (p_data : Sl) (p_a : Int) (p_b : Int) (p_n : Int) (p_cmp : Value) (K : Heap → Prop) (H : Heap) : Prop :=
  lp (α := Int) 0 H (fun x1 J2 H3 =>
 ift (decide ((x1 : Int) < p_n))
 (jn (α := Unit) (fun x6 H7 =>
 J2 (w .i64 (x1 + 1)) H7)
 (fun J5 => dr H3 fun Hs9 =>
 ixa p_data (w .i64 (p_b + x1)) fun p11 =>
 ixa p_data (w .i64 (p_a + x1)) fun p16 =>
 (ldL H3 (p11.1, p11.2 + (w .i64 (p_b + x1) : Int).toNat * 1) fun x22 =>
 Heap.le Hs9 H3 ∧
 ldL H3 (p16.1, p16.2 + (w .i64 (p_a + x1) : Int).toNat * 1) fun x25 =>
 Heap.le Hs9 H3 ∧
 ixa p_data (w .i64 (p_a + x1)) fun p27 =>
 st (p27.1, p27.2 + (w .i64 (p_a + x1) : Int).toNat * 1) (slv x22) (fun H33 =>
 Heap.le Hs9 H33 ∧
 ixa p_data (w .i64 (p_b + x1)) fun p34 =>
 st (p34.1, p34.2 + (w .i64 (p_b + x1) : Int).toNat * 1) (slv x25) (fun H39 =>
 J5 () H39) H33) H3) ∧
 (ldL H3 (p16.1, p16.2 + (w .i64 (p_a + x1) : Int).toNat * 1) fun x41 =>
 Heap.le Hs9 H3 ∧
 ldL H3 (p11.1, p11.2 + (w .i64 (p_b + x1) : Int).toNat * 1) fun x44 =>
 Heap.le Hs9 H3 ∧
 ixa p_data (w .i64 (p_a + x1)) fun p46 =>
 st (p46.1, p46.2 + (w .i64 (p_a + x1) : Int).toNat * 1) (slv x44) (fun H52 =>
 Heap.le Hs9 H52 ∧
 ixa p_data (w .i64 (p_b + x1)) fun p53 =>
 st (p53.1, p53.2 + (w .i64 (p_b + x1) : Int).toNat * 1) (slv x41) (fun H58 =>
 J5 () H58) H52) H3)))
 (K H3))

theorem ad_slices_swapRangeCmpFunc_api_Value (C : Ctx) (p_data : Sl) (p_a : Int) (p_b : Int) (p_n : Int) (p_cmp : Value) (K : Heap → Prop) (H : Heap) (h : sh_slices_swapRangeCmpFunc_api_Value C p_data p_a p_b p_n p_cmp K H) : c_slices_swapRangeCmpFunc_api_Value C p_data p_a p_b p_n p_cmp K H := by
  refine Spec.enter Tryd.func101 rfl Tryd.ntmps101 rfl ?_
  refine GC.sub [(0, slv p_data), (1, .int .i64 p_a), (2, .int .i64 p_b), (3, .int .i64 p_n), (4, p_cmp)] ⟨rfl, rfl, rfl, rfl, rfl, trivial⟩ ?_
  refine GC.seq ?_
  refine GC.region ?_
  refine GL.val trivial rfl (OV.assign (v := .int .i64 0) rfl) ?_
  refine GL.nil ?_
  refine GC.block ?_
  refine GC.loop (α := Int) h (fun x1 => [(10, .int .i64 x1), (0, slv p_data), (1, .int .i64 p_a), (2, .int .i64 p_b), (3, .int .i64 p_n)]) ⟨rfl, rfl, rfl, rfl, rfl, trivial⟩ ?_
  intro x1 H3 J2 h
  refine GC.seq ?_
  refine GC.seq ?_
  refine GC.region ?_
  refine GL.val trivial rfl (OV.move (v := .int .i64 x1) rfl) ?_
  refine GL.val trivial rfl (OV.move (v := .int .i64 p_n) rfl) ?_
  refine GL.val trivial rfl (OV.ibin (v := .bool (decide ((x1 : Int) < p_n))) rfl rfl rfl) ?_
  refine GL.nil ?_
  refine GC.cond (b := decide ((x1 : Int) < p_n)) rfl (fun hc4 => ?_) (fun hc4 => ?_)
  · replace h := And.left h hc4
    refine GC.skip ?_
    refine GC.seq ?_
    refine GC.block ?_
    obtain ⟨J5, h, hR8⟩ := h
    refine GC.meet (α := Unit) J5 (fun _ => [(0, slv p_data), (1, .int .i64 p_a), (2, .int .i64 p_b), (3, .int .i64 p_n), (10, .int .i64 x1)]) ?_ ?_
    · skip
      obtain ⟨Hs9, hle10, h⟩ := h
      refine GC.tail (Hs := Hs9) 23 (by kernel_rfl) hle10 (by kernel_rfl) ?_
      refine GT.take 0 rfl (by kernel_rfl) (by kernel_rfl) (by kernel_rfl) rfl (fun _ _ _ h => False.elim h) trivial rfl (OV.move (v := slv p_data) rfl) ?_
      refine GT.take 1 rfl (by kernel_rfl) (by kernel_rfl) (by kernel_rfl) rfl (fun _ _ _ h => False.elim h) trivial rfl (OV.move (v := .int .i64 p_a) rfl) ?_
      refine GT.take 2 rfl (by kernel_rfl) (by kernel_rfl) (by kernel_rfl) rfl (fun _ _ _ h => False.elim h) trivial rfl (OV.move (v := .int .i64 x1) rfl) ?_
      refine GT.take 3 rfl (by kernel_rfl) (by kernel_rfl) (by kernel_rfl) rfl (fun _ _ _ h => False.elim h) trivial rfl (OV.ibin (v := .int .i64 (w .i64 (p_a + x1))) rfl rfl rfl) ?_
      refine GT.take 4 rfl (by kernel_rfl) (by kernel_rfl) (by kernel_rfl) rfl (fun _ _ _ h => False.elim h) trivial rfl (OV.move (v := slv p_data) rfl) ?_
      refine GT.take 5 rfl (by kernel_rfl) (by kernel_rfl) (by kernel_rfl) rfl (fun _ _ _ h => False.elim h) trivial rfl (OV.move (v := .int .i64 p_b) rfl) ?_
      refine GT.take 6 rfl (by kernel_rfl) (by kernel_rfl) (by kernel_rfl) rfl (fun _ _ _ h => False.elim h) trivial rfl (OV.move (v := .int .i64 x1) rfl) ?_
      refine GT.take 7 rfl (by kernel_rfl) (by kernel_rfl) (by kernel_rfl) rfl (fun _ _ _ h => False.elim h) trivial rfl (OV.ibin (v := .int .i64 (w .i64 (p_b + x1))) rfl rfl rfl) ?_
      refine GT.take 8 rfl (by kernel_rfl) (by kernel_rfl) (by kernel_rfl) rfl (fun _ _ _ h => False.elim h) trivial rfl (OV.move (v := slv p_data) rfl) ?_
      refine GT.take 9 rfl (by kernel_rfl) (by kernel_rfl) (by kernel_rfl) rfl (fun _ _ _ h => False.elim h) trivial rfl (OV.move (v := .int .i64 p_b) rfl) ?_
      refine GT.take 10 rfl (by kernel_rfl) (by kernel_rfl) (by kernel_rfl) rfl (fun _ _ _ h => False.elim h) trivial rfl (OV.move (v := .int .i64 x1) rfl) ?_
      refine GT.take 11 rfl (by kernel_rfl) (by kernel_rfl) (by kernel_rfl) rfl (fun _ _ _ h => False.elim h) trivial rfl (OV.ibin (v := .int .i64 (w .i64 (p_b + x1))) rfl rfl rfl) ?_
      obtain ⟨p11, ha12, hb13, hc14, hd15, h⟩ := h
      refine GT.take 12 rfl (by kernel_rfl) (by kernel_rfl) (by kernel_rfl) rfl (fun _ _ _ h => False.elim h) trivial rfl (OV.indexAddr (s := p_data) rfl rfl rfl rfl ha12 hb13 hc14 hd15) ?_
      refine GT.take 14 rfl (by kernel_rfl) (by kernel_rfl) (by kernel_rfl) rfl (fun _ _ _ h => False.elim h) trivial rfl (OV.move (v := slv p_data) rfl) ?_
      refine GT.take 15 rfl (by kernel_rfl) (by kernel_rfl) (by kernel_rfl) rfl (fun _ _ _ h => False.elim h) trivial rfl (OV.move (v := .int .i64 p_a) rfl) ?_
      refine GT.take 16 rfl (by kernel_rfl) (by kernel_rfl) (by kernel_rfl) rfl (fun _ _ _ h => False.elim h) trivial rfl (OV.move (v := .int .i64 x1) rfl) ?_
      refine GT.take 17 rfl (by kernel_rfl) (by kernel_rfl) (by kernel_rfl) rfl (fun _ _ _ h => False.elim h) trivial rfl (OV.ibin (v := .int .i64 (w .i64 (p_a + x1))) rfl rfl rfl) ?_
      obtain ⟨p16, ha17, hb18, hc19, hd20, h⟩ := h
      refine GT.take 18 rfl (by kernel_rfl) (by kernel_rfl) (by kernel_rfl) rfl (fun _ _ _ h => False.elim h) trivial rfl (OV.indexAddr (s := p_data) rfl rfl rfl rfl ha17 hb18 hc19 hd20) ?_
      refine GT.effs [13, 19] (by kernel_rfl) (by simp) (List.forall_mem_cons.2 ⟨⟨_, rfl, rfl, ?_⟩, List.forall_mem_cons.2 ⟨⟨_, rfl, rfl, ?_⟩, fun _ h => by cases h⟩⟩)
      · replace h := h.1
        obtain ⟨x22, hr23, h⟩ := h
        refine GL.val trivial rfl (OV.load (p := (p11.1, p11.2 + (w .i64 (p_b + x1) : Int).toNat * 1)) rfl rfl hr23) ?_
        obtain ⟨hle21, h⟩ := h
        refine GT.back hle21 ?_
        refine GT.eff 19 rfl (by kernel_rfl) rfl ?_
        obtain ⟨x25, hr26, h⟩ := h
        refine GL.val trivial rfl (OV.load (p := (p16.1, p16.2 + (w .i64 (p_a + x1) : Int).toNat * 1)) rfl rfl hr26) ?_
        obtain ⟨hle24, h⟩ := h
        refine GT.back hle24 ?_
        obtain ⟨p27, ha28, hb29, hc30, hd31, h⟩ := h
        refine GT.take 20 rfl (by kernel_rfl) (by kernel_rfl) (by kernel_rfl) rfl (fun _ _ _ h => False.elim h) trivial rfl (OV.indexAddr (s := p_data) rfl rfl rfl rfl ha28 hb29 hc30 hd31) ?_
        refine GT.eff 21 rfl (by kernel_rfl) rfl ?_
        refine GL.store (p := (p27.1, p27.2 + (w .i64 (p_a + x1) : Int).toNat * 1)) (v := slv x22) h trivial rfl rfl rfl rfl ?_
        intro H33 h
        obtain ⟨hle32, h⟩ := h
        refine GT.back hle32 ?_
        obtain ⟨p34, ha35, hb36, hc37, hd38, h⟩ := h
        refine GT.take 22 rfl (by kernel_rfl) (by kernel_rfl) (by kernel_rfl) rfl (fun _ _ _ h => False.elim h) trivial rfl (OV.indexAddr (s := p_data) rfl rfl rfl rfl ha35 hb36 hc37 hd38) ?_
        refine GT.done (by kernel_rfl) ?_
        show GL _ _ _ _ _ [_] _ _
        refine GL.store (p := (p34.1, p34.2 + (w .i64 (p_b + x1) : Int).toNat * 1)) (v := slv x25) h trivial rfl rfl rfl rfl ?_
        intro H39 h
        exact GL.jump (fun _ _ h => h) () h ⟨rfl, rfl, rfl, rfl, rfl, trivial⟩
      · replace h := h.2
        obtain ⟨x41, hr42, h⟩ := h
        refine GL.val trivial rfl (OV.load (p := (p16.1, p16.2 + (w .i64 (p_a + x1) : Int).toNat * 1)) rfl rfl hr42) ?_
        obtain ⟨hle40, h⟩ := h
        refine GT.back hle40 ?_
        refine GT.eff 13 rfl (by kernel_rfl) rfl ?_
        obtain ⟨x44, hr45, h⟩ := h
        refine GL.val trivial rfl (OV.load (p := (p11.1, p11.2 + (w .i64 (p_b + x1) : Int).toNat * 1)) rfl rfl hr45) ?_
        obtain ⟨hle43, h⟩ := h
        refine GT.back hle43 ?_
        obtain ⟨p46, ha47, hb48, hc49, hd50, h⟩ := h
        refine GT.take 20 rfl (by kernel_rfl) (by kernel_rfl) (by kernel_rfl) rfl (fun _ _ _ h => False.elim h) trivial rfl (OV.indexAddr (s := p_data) rfl rfl rfl rfl ha47 hb48 hc49 hd50) ?_
        refine GT.eff 21 rfl (by kernel_rfl) rfl ?_
        refine GL.store (p := (p46.1, p46.2 + (w .i64 (p_a + x1) : Int).toNat * 1)) (v := slv x44) h trivial rfl rfl rfl rfl ?_
        intro H52 h
        obtain ⟨hle51, h⟩ := h
        refine GT.back hle51 ?_
        obtain ⟨p53, ha54, hb55, hc56, hd57, h⟩ := h
        refine GT.take 22 rfl (by kernel_rfl) (by kernel_rfl) (by kernel_rfl) rfl (fun _ _ _ h => False.elim h) trivial rfl (OV.indexAddr (s := p_data) rfl rfl rfl rfl ha54 hb55 hc56 hd57) ?_
        refine GT.done (by kernel_rfl) ?_
        show GL _ _ _ _ _ [_] _ _
        refine GL.store (p := (p53.1, p53.2 + (w .i64 (p_b + x1) : Int).toNat * 1)) (v := slv x41) h trivial rfl rfl rfl rfl ?_
        intro H58 h
        exact GL.jump (fun _ _ h => h) () h ⟨rfl, rfl, rfl, rfl, rfl, trivial⟩
    · intro x6 H7 h
      replace h := hR8 x6 H7 h
      refine GL.nil_to (fun _ _ h => h) ?_
      refine GC.region ?_
      refine GL.val trivial rfl (OV.move (v := .int .i64 x1) rfl) ?_
      refine GL.val trivial rfl (OV.ibin (v := .int .i64 (w .i64 (x1 + 1))) rfl rfl rfl) ?_
      refine GL.val trivial rfl (OV.assign (v := .int .i64 (w .i64 (x1 + 1))) rfl) ?_
      exact GL.jump (fun _ _ h => h) (w .i64 (x1 + 1)) h ⟨rfl, rfl, rfl, rfl, rfl, trivial⟩
  · replace h := And.right h hc4
    exact GC.exit_ends (fun _ _ hf hs => post_tmp0 rfl hf hs ⟨rfl, h⟩)
end Sx
end

noncomputable section
set_option linter.unusedVariables false
namespace Go.Proofs
open Go.Shelf
def Tryd.lays173_ren : Go.Shelf.Ren := ⟨fun | 173 => 29 | 246 => 45 | 283 => 57 | 284 => 58 | 285 => 59 | 286 => 60 | 129 => 79 | 317 => 78 | 318 => 80 | 319 => 81 | 320 => 82 | 337 => 98 | 338 => 99 | n => n, fun | 2 => 2 | 3 => 3 | 9 => 9 | 4 => 4 | 171 => 82 | 0 => 0 | 53 => 83 | 37 => 32 | 5 => 5 | 173 => 86 | 212 => 104 | 51 => 105 | 20 => 20 | 213 => 106 | 46 => 70 | 232 => 122 | 233 => 123 | n => n, fun | 17 => 0 | 18 => 2 | 19 => 3 | n => n⟩
theorem Tryd.lays173 : Go.Proofs.LaysM.n173 Tryd.prog Tryd.lays173_ren := {
  mixed := by kernel_rfl
  f129 := Tryd.func79.trans (congrArg some (by kernel_rfl))
  f173 := Tryd.func29.trans (congrArg some (by kernel_rfl))
  f246 := Tryd.func45.trans (congrArg some (by kernel_rfl))
  f283 := Tryd.func57.trans (congrArg some (by kernel_rfl))
  f284 := Tryd.func58.trans (congrArg some (by kernel_rfl))
  f285 := Tryd.func59.trans (congrArg some (by kernel_rfl))
  f286 := Tryd.func60.trans (congrArg some (by kernel_rfl))
  f317 := Tryd.func78.trans (congrArg some (by kernel_rfl))
  f318 := Tryd.func80.trans (congrArg some (by kernel_rfl))
  f319 := Tryd.func81.trans (congrArg some (by kernel_rfl))
  f320 := Tryd.func82.trans (congrArg some (by kernel_rfl))
  f337 := Tryd.func98.trans (congrArg some (by kernel_rfl))
  f338 := Tryd.func99.trans (congrArg some (by kernel_rfl))
  t0 := Tryd.underlying0
  a0 := Tryd.isAgg0
  z0 := Tryd.sizeOf0
  v0 := Tryd.zeroValue0
  t2 := Tryd.underlying2
  a2 := Tryd.isAgg2
  z2 := Tryd.sizeOf2
  v2 := Tryd.zeroValue2
  t3 := Tryd.underlying3
  a3 := Tryd.isAgg3
  z3 := Tryd.sizeOf3
  v3 := Tryd.zeroValue3
  t4 := Tryd.underlying4
  a4 := Tryd.isAgg4
  z4 := Tryd.sizeOf4
  v4 := Tryd.zeroValue4
  t5 := Tryd.underlying5
  a5 := Tryd.isAgg5
  z5 := Tryd.sizeOf5
  v5 := Tryd.zeroValue5
  t9 := Tryd.underlying9
  a9 := Tryd.isAgg9
  z9 := Tryd.sizeOf9
  v9 := Tryd.zeroValue9
  t20 := Tryd.underlying20
  a20 := Tryd.isAgg20
  z20 := Tryd.sizeOf20
  v20 := Tryd.zeroValue20
  t37 := Tryd.underlying32
  a37 := Tryd.isAgg32
  z37 := Tryd.sizeOf32
  v37 := Tryd.zeroValue32
  t46 := Tryd.underlying70
  a46 := Tryd.isAgg70
  z46 := Tryd.sizeOf70
  v46 := Tryd.zeroValue70
  t51 := Tryd.underlying105
  a51 := Tryd.isAgg105
  z51 := Tryd.sizeOf105
  v51 := Tryd.zeroValue105
  t53 := Tryd.underlying83
  a53 := Tryd.isAgg83
  z53 := Tryd.sizeOf83
  v53 := Tryd.zeroValue83
  t171 := Tryd.underlying82
  a171 := Tryd.isAgg82
  z171 := Tryd.sizeOf82
  v171 := Tryd.zeroValue82
  t173 := Tryd.underlying86
  a173 := Tryd.isAgg86
  z173 := Tryd.sizeOf86
  v173 := Tryd.zeroValue86
  t212 := Tryd.underlying104
  a212 := Tryd.isAgg104
  z212 := Tryd.sizeOf104
  v212 := Tryd.zeroValue104
  t213 := Tryd.underlying106
  a213 := Tryd.isAgg106
  z213 := Tryd.sizeOf106
  t232 := Tryd.underlying122
  a232 := Tryd.isAgg122
  z232 := Tryd.sizeOf122
  v232 := Tryd.zeroValue122
  t233 := Tryd.underlying123
  a233 := Tryd.isAgg123
  z233 := Tryd.sizeOf123
  v233 := Tryd.zeroValue123
  g17 := by kernel_rfl
  g18 := by kernel_rfl
  g19 := by kernel_rfl
  i0 := by kernel_rfl
  i2 := by kernel_rfl
  i3 := by kernel_rfl
  i4 := by kernel_rfl
  i5 := by kernel_rfl
  i9 := by kernel_rfl
  i20 := by kernel_rfl
  i37 := by kernel_rfl
  i46 := by kernel_rfl
  i51 := by kernel_rfl
  i53 := by kernel_rfl
  i171 := by kernel_rfl
  i173 := by kernel_rfl
  i212 := by kernel_rfl
  i232 := by kernel_rfl
  i233 := by kernel_rfl
  m17 := by kernel_rfl
  m18 := by kernel_rfl
  m19 := by kernel_rfl }
end Go.Proofs
namespace Sx
open Go Go.Proofs Go.Stop Go.RowKit
/-- the table of powers, as it was laid -/
def PowT (C : Ctx) : Prop := ∃ t fr, C.old[(Tryd.lays173_ren.g 17)]? = some (.cells (Lib.pow10Tab.map fun z => Value.int .u64 z).toArray t fr)
/-- what writes numbers -/
structure FmtC (C : Ctx) : Prop where
  ok : ∀ {n : Int} {H : Heap} {K : Str → Heap → Prop}, -9223372036854775808 ≤ n → n ≤ 9223372036854775807 → K (Lib.itoa n) H → c_strconv_FormatInt C n 10 K H
theorem St.more {C : Ctx} {w : World} {H : Heap} (h : St C w H) (o : Obj) : St C { w with heap := w.heap.push o } H := by
  by_cases hc : ∃ c t fr, o = .cells c t fr
  · obtain ⟨c, t, fr, rfl⟩ := hc
    exact (h.push (o := .cells c t fr) (m := false) (g := .row c.toList) ⟨by simp, fun h => by cases h⟩).weaken (Heap.le_put h.fresh)
  · exact (h.push (o := o) (m := false) (g := .obj o) ⟨rfl, fun c t fr e => hc ⟨c, t, fr, e⟩⟩).weaken (Heap.le_put h.fresh)
theorem St.growL {C : Ctx} {H : Heap} : ∀ (os : List Obj) {w : World}, St C w H → St C { w with heap := w.heap ++ os.toArray } H
  | [], w, h => by
    have e : w.heap ++ ([] : List Obj).toArray = w.heap := by simp
    rw [e]; exact h
  | o :: os, w, h => by
    have e : w.heap ++ (o :: os).toArray = w.heap.push o ++ os.toArray := by apply Array.ext'; simp
    have := St.growL os (h.more o)
    rw [e]; exact this
theorem St.drewN {C : Ctx} {H : Heap} {w : World} (h : St C w H) : ∀ k, St C (w.drewN k) H
  | 0 => h
  | k + 1 => (St.drewN h k).drew
theorem fmt_ok {C : Ctx} (hT : PowT C) : FmtC C := ⟨fun {n H K} h0 h1 k => by
  intro w hw
  obtain ⟨t, fr, hg⟩ := hT
  have hlt := (Array.getElem?_eq_some_iff.1 hg).1
  refine (Any.strconv_FormatInt_10 Tryd.lays173 n h0 h1 w ?_).mono ?_
  · unfold Lib.TabIs World.var?
    rw [Tryd.lays173.m17]
    simp only [Option.bind_some]
    rw [hw.old _ hlt, hg]
  · rintro e w' ⟨rfl, k', os, rfl⟩
    have h2 := St.growL os.toList (hw.drewN k')
    rw [Array.toArray_toList] at h2
    exact ⟨_, H, rfl, h2, ⟨_, rfl, k⟩⟩⟩
theorem pow_laid {W : World} {name : String} (hg : Tryd.prog.globalNamed name = some (Tryd.lays173_ren.g 17)) : ∀ (i : Nat) {l : List (String × DataW Unit)} {ps : List MemPlace}, DataW.LaidVars Tryd.prog W l ps → l[i]? = some (name, Lib.tabData .u64 Lib.pow10Tab) → PowT (ctxOf W)
  | _, [], ps, _, hi => by simp at hi
  | 0, (n, d) :: r, ps, ⟨g, t, cs, fuel, p, q, h1, h2, h3, h4, h5, h6⟩, hi => by
    simp only [List.getElem?_cons_zero, Option.some.injEq, Prod.mk.injEq] at hi
    obtain ⟨rfl, rfl⟩ := hi
    obtain rfl := Option.some.inj (hg.symm.trans h1)
    have hT : (Tryd.prog.globals[(Tryd.lays173_ren.g 17)]?).map (·.type) = some 104 := by kernel_rfl
    obtain rfl := Option.some.inj (hT.symm.trans h2)
    have hc := Lib.cells_of_tab Tryd.underlying104 Tryd.underlying83 (by kernel_rfl) (by kernel_rfl) h4
    unfold World.var? at h3
    rw [h1] at h3
    simp only [Option.bind_some] at h3
    cases hb : W.heap[(Tryd.lays173_ren.g 17)]? with
    | none => rw [hb] at h3; cases h3
    | some o =>
      rw [hb] at h3
      cases o <;> simp only [reduceCtorEq, Option.some.injEq] at h3
      rename_i c ty fr
      subst h3
      refine ⟨ty, fr, ?_⟩
      show W.heap[(Tryd.lays173_ren.g 17)]? = _
      rw [hb, ← hc]
  | i + 1, (n, d) :: r, ps, ⟨g, t, cs, fuel, p, q, h1, h2, h3, h4, h5, h6⟩, hi => pow_laid hg i h5 (by simpa using hi)
theorem pow_met {W : World} {name : String} {l : List (String × DataW Unit)} (h : laidMet Tryd.prog l W) (i : Nat) (hi : l[i]? = some (name, Lib.tabData .u64 Lib.pow10Tab)) (hg : Tryd.prog.globalNamed name = some (Tryd.lays173_ren.g 17)) : PowT (ctxOf W) := by
  obtain ⟨ps, h1, _⟩ := h
  exact pow_laid hg i h1 hi
end Sx
end

noncomputable section
set_option linter.unusedVariables false
set_option linter.unusedSimpArgs false
namespace Sx
open Go
inductive V where
  | mk (k n : Int) (s : Str) (l : List V)

namespace V
def k : V → Int | .mk k _ _ _ => k
def n : V → Int | .mk _ n _ _ => n
def s : V → Str | .mk _ _ s _ => s
def l : V → List V | .mk _ _ _ l => l
end V
mutual
def vsize : V → Nat
  | .mk _ _ _ l => vsizes l + 1
def vsizes : List V → Nat
  | [] => 0
  | v :: l => vsize v + vsizes l
end
theorem vsize_mem : ∀ {l : List V} {v : V}, v ∈ l → vsize v ≤ vsizes l
  | w :: l, v, h => by
    simp only [vsizes]
    rcases List.mem_cons.1 h with rfl | h
    · omega
    · have := vsize_mem h; omega
theorem vsize_l {v w : V} (h : w ∈ v.l) : vsize w < vsize v := by
  obtain ⟨k, n, s, l⟩ := v
  have := vsize_mem (show w ∈ l from h)
  simp only [vsize]; omega
/-- by how great a value is -/
theorem V.rec_ {P : V → Prop} (h : ∀ v, (∀ w ∈ v.l, P w) → P v) (v : V) : P v := by
  have : ∀ n v, vsize v ≤ n → P v := by
    intro n
    induction n with
    | zero => intro v hv; obtain ⟨k, n, s, l⟩ := v; simp [vsize] at hv
    | succ n ih => intro v hv; exact h v fun w hw => ih w (by have := vsize_l hw; omega)
  exact this _ v (Nat.le_refl _)

mutual
def dep : V → Nat
  | .mk _ _ _ l => deps l + 1
def deps : List V → Nat
  | [] => 0
  | v :: l => max (dep v) (deps l)
end
theorem dep_eq (v : V) : dep v = deps v.l + 1 := by obtain ⟨k, n, s, l⟩ := v; rfl
theorem deps_append : ∀ (a b : List V), deps (a ++ b) = max (deps a) (deps b)
  | [], b => by simp [deps]
  | v :: a, b => by simp only [List.cons_append, deps, deps_append a b]; omega
theorem deps_take {l : List V} {i : Nat} (h : i < l.length) : deps (l.take (i + 1)) = max (deps (l.take i)) (dep l[i]) := by
  rw [List.take_add_one, List.getElem?_eq_getElem h, Option.toList_some, deps_append]; simp [deps]
theorem deps_le : ∀ {l : List V} {v : V}, v ∈ l → dep v ≤ deps l
  | w :: l, v, h => by
    simp only [deps]
    rcases List.mem_cons.1 h with rfl | h
    · omega
    · have := deps_le h; omega
def lowC (c : UInt8) : Bool := decide (97 ≤ c.toNat) && decide (c.toNat ≤ 122)
def nameC (c : UInt8) : Bool := lowC c || (decide (65 ≤ c.toNat) && decide (c.toNat ≤ 90)) || (decide (48 ≤ c.toNat) && decide (c.toNat ≤ 57)) || decide (c.toNat = 95)
def nameS (s : Str) : Bool := !s.isEmpty && decide (s.length ≤ 32) && lowC (s.headD 0) && s.all nameC
def digC (c : UInt8) : Bool := decide (48 ≤ c.toNat) && decide (c.toNat ≤ 57)
def cutD : Str → Option (Str × Str)
  | [] => none
  | c :: t => if c = 46 then some ([], t) else (cutD t).map fun p => (c :: p.1, p.2)
theorem cutD_at : ∀ (a b : Str), (46 : UInt8) ∉ a → cutD (a ++ 46 :: b) = some (a, b)
  | [], b, _ => by simp [cutD]
  | c :: a, b, h => by
    have h1 : c ≠ 46 := fun e => h (by rw [e]; exact List.mem_cons_self ..)
    simp only [List.cons_append, cutD, if_neg h1, cutD_at a b fun hh => h (List.mem_cons_of_mem _ hh)]; rfl
theorem cutD_no : ∀ (a : Str), (46 : UInt8) ∉ a → cutD a = none
  | [], _ => rfl
  | c :: a, h => by
    have h1 : c ≠ 46 := fun e => h (by rw [e]; exact List.mem_cons_self ..)
    simp only [cutD, if_neg h1, cutD_no a fun hh => h (List.mem_cons_of_mem _ hh)]; rfl
theorem cutD_mem : ∀ (s : Str), (46 : UInt8) ∈ s → ∃ a b, s = a ++ 46 :: b ∧ 46 ∉ a
  | c :: s, h => by
    by_cases hc : c = 46
    · exact ⟨[], s, by rw [hc]; rfl, by simp⟩
    · obtain ⟨a, b, h1, h2⟩ := cutD_mem s (by simpa [Ne.symm hc] using h)
      exact ⟨c :: a, b, by rw [h1]; rfl, by simp [h2, Ne.symm hc]⟩
def trueS : Str := [116, 114, 117, 101]
def falseS : Str := [102, 97, 108, 115, 101]
def namesS (s : Str) : Bool := if s = trueS ∨ s = falseS then false else match cutD s with
  | some (a, b) => nameS a && nameS b
  | none => nameS s
def unmin (s : Str) : Str := if s.head? = some 45 then s.tail else s
def numS (s : Str) : Bool := !(unmin s).isEmpty && (unmin s).all digC && !(decide ((unmin s).head? = some 48) && decide (s ≠ [48]))
def digits (s : Str) : Nat := (unmin s).length

def okN (k n : Int) (s : Str) (m : Nat) : Bool :=
  if k = 1 then (n == 0 || n == 1) && s.isEmpty && decide (m = 0)
  else if k = 2 then s.isEmpty && decide (m = 0)
  else if k = 3 then numS s && n == 0 && decide (m = 0)
  else if k = 4 then n == 0 && decide (m = 0)
  else if k = 5 then n == 0 && s.isEmpty && decide (m ≠ 1)
  else if k = 6 then n == 0 && namesS s
  else false
def fitN (k : Int) (s : Str) (m : Nat) : Bool :=
  if k = 3 then decide (digits s ≤ 200)
  else if k = 4 then decide (s.length ≤ 4096)
  else if k = 5 then decide (m ≤ 16)
  else if k = 6 then decide (m ≤ 8)
  else true
mutual
def formV : V → Bool
  | .mk k n s l => okN k n s l.length && formVs l
def formVs : List V → Bool
  | [] => true
  | v :: l => formV v && formVs l
end
mutual
def fitsV : V → Bool
  | .mk k n s l => fitN k s l.length && fitsVs l
def fitsVs : List V → Bool
  | [] => true
  | v :: l => fitsV v && fitsVs l
end
theorem formV_eq (v : V) : formV v = (okN v.k v.n v.s v.l.length && formVs v.l) := by obtain ⟨k, n, s, l⟩ := v; rfl
theorem fitsV_eq (v : V) : fitsV v = (fitN v.k v.s v.l.length && fitsVs v.l) := by obtain ⟨k, n, s, l⟩ := v; rfl
theorem formVs_append : ∀ (a b : List V), formVs (a ++ b) = (formVs a && formVs b)
  | [], b => by simp [formVs]
  | v :: a, b => by simp only [List.cons_append, formVs, formVs_append a b, Bool.and_assoc]
theorem fitsVs_append : ∀ (a b : List V), fitsVs (a ++ b) = (fitsVs a && fitsVs b)
  | [], b => by simp [fitsVs]
  | v :: a, b => by simp only [List.cons_append, fitsVs, fitsVs_append a b, Bool.and_assoc]
theorem formVs_take {l : List V} {i : Nat} (h : i < l.length) : formVs (l.take (i + 1)) = (formVs (l.take i) && formV l[i]) := by
  rw [List.take_add_one, List.getElem?_eq_getElem h, Option.toList_some, formVs_append]; simp [formVs]
theorem fitsVs_take {l : List V} {i : Nat} (h : i < l.length) : fitsVs (l.take (i + 1)) = (fitsVs (l.take i) && fitsV l[i]) := by
  rw [List.take_add_one, List.getElem?_eq_getElem h, Option.toList_some, fitsVs_append]; simp [fitsVs]
theorem formVs_false : ∀ {l : List V} {v : V}, v ∈ l → formV v = false → formVs l = false
  | w :: l, v, h, hv => by
    simp only [formVs]
    rcases List.mem_cons.1 h with rfl | h
    · rw [hv]; rfl
    · rw [formVs_false h hv, Bool.and_false]
theorem formVs_mem : ∀ {l : List V} {v : V}, v ∈ l → formVs l = true → formV v = true := fun h hl => by
  cases hv : formV _ with
  | true => rfl
  | false => rw [formVs_false h hv] at hl; cases hl
def checkV (v : V) : Int := if dep v > 64 then 65 else if formV v = false then 4 else if fitsV v = false then 40 else 0
def mayV (v : V) : Bool := decide (checkV v = 0)
theorem mayV_iff (v : V) : mayV v = true ↔ dep v ≤ 64 ∧ formV v = true ∧ fitsV v = true := by
  unfold mayV checkV
  rw [decide_eq_true_eq]
  by_cases h1 : dep v > 64
  · simp [h1]; omega
  · rw [if_neg h1]
    cases hf : formV v <;> cases hg : fitsV v <;> simp <;> omega

def sgn (a b : Int) : Int := if a < b then -1 else if b < a then 1 else 0
def vcmpS : Str → Str → Int
  | [], [] => 0
  | [], _ :: _ => -1
  | _ :: _, [] => 1
  | a :: s, b :: t => if a = b then vcmpS s t else sgn a.toNat b.toNat
/-- of whole numbers without their signs -/
def cmpD (a b : Str) : Int := if a.length = b.length then vcmpS a b else sgn a.length b.length
def isMin (s : Str) : Bool := decide (s.head? = some 45)
def cmpB (a b : Str) : Int := if isMin a then (if isMin b then cmpD b.tail a.tail else -1) else if isMin b then 1 else cmpD a b
mutual
def cmpV : V → V → Int
  | .mk k n s l, .mk k' n' s' l' =>
    if k ≠ k' then sgn k k'
    else if k = 3 then cmpB s s'
    else if k = 4 then vcmpS s s'
    else if k = 5 then cmpVs l l'
    else if k = 6 then (if vcmpS s s' ≠ 0 then vcmpS s s' else cmpVs l l')
    else sgn n n'
def cmpVs : List V → List V → Int
  | [], [] => 0
  | [], _ :: _ => -1
  | _ :: _, [] => 1
  | v :: l, w :: m => if cmpV v w ≠ 0 then cmpV v w else cmpVs l m
end
def lastB (a b : Bool) : Int := if a = b then 0 else if a then -1 else 1
def cmpA (v w : V) : Int := if mayV v = true ∧ mayV w = true then cmpV v w else lastB (mayV v) (mayV w)
def mayR (l : List V) : Bool := l.all mayV
def cmpR (l m : List V) : Int := if mayR l = true ∧ mayR m = true then cmpVs l m else lastB (mayR l) (mayR m)

mutual
def sameV : V → V → Bool
  | .mk k n s l, .mk k' n' s' l' => k == k' && n == n' && decide (s = s') && sameVs l l'
def sameVs : List V → List V → Bool
  | [], [] => true
  | v :: l, w :: m => sameV v w && sameVs l m
  | _, _ => false
end
theorem sameV_eq {v w : V} (h : sameV v w = true) : v = w := by
  have key : ∀ v : V, ∀ w, sameV v w = true → v = w := by
    refine V.rec_ (P := fun v => ∀ w, sameV v w = true → v = w) fun v ih w h => ?_
    obtain ⟨k, n, s, l⟩ := v
    obtain ⟨k', n', s', l'⟩ := w
    simp only [sameV, Bool.and_eq_true, beq_iff_eq, decide_eq_true_eq] at h
    obtain ⟨⟨⟨rfl, rfl⟩, rfl⟩, h⟩ := h
    have : ∀ (l m : List V), (∀ v ∈ l, ∀ w, sameV v w = true → v = w) → sameVs l m = true → l = m := by
      intro l
      induction l with
      | nil => intro m _ h; cases m with
        | nil => rfl
        | cons _ _ => simp [sameVs] at h
      | cons v l ihl =>
        intro m hh h
        cases m with
        | nil => simp [sameVs] at h
        | cons w m =>
          simp only [sameVs, Bool.and_eq_true] at h
          rw [hh v (List.mem_cons_self ..) w h.1, ihl m (fun v hv => hh v (List.mem_cons_of_mem _ hv)) h.2]
    rw [this l l' ih h]
  exact key v w h
mutual
theorem sameV_refl : ∀ v : V, sameV v v = true
  | .mk k n s l => by simp [sameV, sameVs_refl l]
theorem sameVs_refl : ∀ l : List V, sameVs l l = true
  | [] => rfl
  | v :: l => by simp [sameVs, sameV_refl v, sameVs_refl l]
end
theorem sameV_iff {v w : V} : sameV v w = true ↔ v = w := ⟨sameV_eq, fun h => h ▸ sameV_refl v⟩
end Sx
end

noncomputable section
set_option linter.unusedVariables false
set_option linter.unusedSimpArgs false
set_option maxRecDepth 10000
namespace Sx
open Go Go.Proofs
theorem flat_get {α β : Type} (f : α → List β) (z : Nat) (hz : ∀ x, (f x).length = z) : ∀ (l : List α) (i : Nat) (x : α), l[i]? = some x → ∀ (j : Nat) (v : β), (f x)[j]? = some v → (l.flatMap f)[i * z + j]? = some v
  | [], i, x, h, j, v, hv => by simp at h
  | y :: l, 0, x, h, j, v, hv => by
    simp at h; subst h
    rw [List.flatMap_cons, Nat.zero_mul, Nat.zero_add, List.getElem?_append_left (List.getElem?_eq_some_iff.1 hv).1]; exact hv
  | y :: l, i + 1, x, h, j, v, hv => by
    have := flat_get f z hz l i x (by simpa using h) j v hv
    rw [List.flatMap_cons, List.getElem?_append_right (by rw [hz, Nat.add_mul]; omega), hz]
    rw [show (i + 1) * z + j - z = i * z + j by rw [Nat.add_mul]; omega]; exact this

abbrev TV := T_api_Value
theorem TV.c_len (x : TV) : (T_api_Value.c x).length = 4 := rfl

mutual
def VIs (H : Heap) : V → TV → Prop
  | .mk k n s l, x => x.Kind = k ∧ x.N = n ∧ x.S = s ∧ ∃ xs : List TV, rdsl H x.L (xs.flatMap T_api_Value.c) ∧ x.L.len = xs.length ∧ VsAre H l xs
def VsAre (H : Heap) : List V → List TV → Prop
  | [], [] => True
  | v :: l, x :: xs => VIs H v x ∧ VsAre H l xs
  | [], _ :: _ => False
  | _ :: _, [] => False
end
/-- a row of values -/
def VRow (H : Heap) (t : Sl) (l : List V) : Prop := ∃ xs : List TV, rdsl H t (xs.flatMap T_api_Value.c) ∧ t.len = xs.length ∧ VsAre H l xs
theorem VIs_iff {H : Heap} {v : V} {x : TV} : VIs H v x ↔ x.Kind = v.k ∧ x.N = v.n ∧ x.S = v.s ∧ VRow H x.L v.l := by obtain ⟨k, n, s, l⟩ := v; rfl
theorem VsAre.len {H : Heap} : ∀ {l : List V} {xs : List TV}, VsAre H l xs → l.length = xs.length
  | [], [], _ => rfl
  | v :: l, x :: xs, h => by have := VsAre.len h.2; simp [this]
theorem VsAre.get {H : Heap} : ∀ {l : List V} {xs : List TV}, VsAre H l xs → ∀ (i : Nat) (v : V) (x : TV), l[i]? = some v → xs[i]? = some x → VIs H v x
  | [], [], _, i, v, x, h, _ => by simp at h
  | v :: l, x :: xs, h, 0, v', x', h1, h2 => by simp at h1 h2; subst h1; subst h2; exact h.1
  | v :: l, x :: xs, h, i + 1, v', x', h1, h2 => VsAre.get h.2 i v' x' (by simpa using h1) (by simpa using h2)
theorem VsAre.of {H : Heap} : ∀ {l : List V} {xs : List TV}, l.length = xs.length → (∀ (i : Nat) (v : V) (x : TV), l[i]? = some v → xs[i]? = some x → VIs H v x) → VsAre H l xs
  | [], [], _, _ => trivial
  | v :: l, x :: xs, h, hg => ⟨hg 0 v x rfl rfl, VsAre.of (by simpa using h) fun i v' x' h1 h2 => hg (i + 1) v' x' (by simpa using h1) (by simpa using h2)⟩
mutual
theorem VIs.le {A B : Heap} (h : A.le B) : ∀ {v : V} {x : TV}, VIs A v x → VIs B v x
  | .mk k n s l, x, ⟨h1, h2, h3, xs, h4, h5, h6⟩ => ⟨h1, h2, h3, xs, rdsl_le h h4, h5, VsAre.le h h6⟩
theorem VsAre.le {A B : Heap} (h : A.le B) : ∀ {l : List V} {xs : List TV}, VsAre A l xs → VsAre B l xs
  | [], [], _ => trivial
  | v :: l, x :: xs, ⟨h1, h2⟩ => ⟨VIs.le h h1, VsAre.le h h2⟩
end
theorem VRow.le {A B : Heap} {t : Sl} {l : List V} (h : VRow A t l) (hle : A.le B) : VRow B t l := by
  obtain ⟨xs, h1, h2, h3⟩ := h
  exact ⟨xs, rdsl_le hle h1, h2, h3.le hle⟩
theorem VRow.len {H : Heap} {t : Sl} {l : List V} (h : VRow H t l) : t.len = l.length := by
  obtain ⟨xs, h1, h2, h3⟩ := h
  rw [h2, h3.len]
theorem VIs.kind {H : Heap} {v : V} {x : TV} (h : VIs H v x) : x.Kind = v.k := (VIs_iff.1 h).1
theorem VIs.num {H : Heap} {v : V} {x : TV} (h : VIs H v x) : x.N = v.n := (VIs_iff.1 h).2.1
theorem VIs.txt {H : Heap} {v : V} {x : TV} (h : VIs H v x) : x.S = v.s := (VIs_iff.1 h).2.2.1
theorem VIs.row {H : Heap} {v : V} {x : TV} (h : VIs H v x) : VRow H x.L v.l := (VIs_iff.1 h).2.2.2

/-- one of a row's values -/
theorem VRow.ld {A H : Heap} {t : Sl} {l : List V} (h : VRow A t l) (hle : A.le H) {i : Nat} {x : Int} {K : TV → Prop} (hx : x = i) (hi : i < l.length) (k : ∀ y, VIs A l[i] y → K y) : ixa t x fun p => ldT H T_api_Value.c (p.1, p.2 + x.toNat * 4) K := by
  have hl := h.len
  obtain ⟨xs, h1, h2, h3⟩ := h
  have hi2 : i < xs.length := by omega
  have hg := List.getElem?_eq_getElem hi2
  subst hx
  refine ixa_of (rdsl_le hle h1) (by omega) (by omega) (fun e => ?_) fun p _ hp => ⟨xs[i], ?_, k _ (h3.get i _ _ (List.getElem?_eq_getElem hi) hg)⟩
  · have := flat_get T_api_Value.c 4 TV.c_len xs i _ hg 0 _ rfl
    rw [e] at this; simp at this
  · refine rds_of fun j v hj => ?_
    have := rds_get hp _ _ (flat_get T_api_Value.c 4 TV.c_len xs i _ hg j v hj)
    rw [show p.2 + (i : Int).toNat * 4 + j = p.2 + (i * 4 + j) by omega]; exact this

mutual
def VB : V → Prop
  | .mk k n s l => (0 ≤ k ∧ k ≤ 255) ∧ (-9223372036854775808 ≤ n ∧ n ≤ 9223372036854775807) ∧ s.length ≤ 140737488355328 ∧ l.length ≤ 140737488355328 ∧ VBs l
def VBs : List V → Prop
  | [] => True
  | v :: l => VB v ∧ VBs l
end
theorem VBs.mem : ∀ {l : List V}, VBs l → ∀ {v}, v ∈ l → VB v
  | w :: l, h, v, hv => by
    rcases List.mem_cons.1 hv with rfl | hv
    · exact h.1
    · exact VBs.mem h.2 hv
theorem VBs.of : ∀ {l : List V}, (∀ v ∈ l, VB v) → VBs l
  | [], _ => trivial
  | v :: l, h => ⟨h v (List.mem_cons_self ..), VBs.of fun w hw => h w (List.mem_cons_of_mem _ hw)⟩
theorem VB.k {v : V} (h : VB v) : 0 ≤ v.k ∧ v.k ≤ 255 := by obtain ⟨k, n, s, l⟩ := v; exact h.1
theorem VB.n {v : V} (h : VB v) : -9223372036854775808 ≤ v.n ∧ v.n ≤ 9223372036854775807 := by obtain ⟨k, n, s, l⟩ := v; exact h.2.1
theorem VB.s {v : V} (h : VB v) : v.s.length ≤ 140737488355328 := by obtain ⟨k, n, s, l⟩ := v; exact h.2.2.1
theorem VB.l {v : V} (h : VB v) : v.l.length ≤ 140737488355328 := by obtain ⟨k, n, s, l⟩ := v; exact h.2.2.2.1
theorem VB.ls {v : V} (h : VB v) : VBs v.l := by obtain ⟨k, n, s, l⟩ := v; exact h.2.2.2.2
theorem VB.at {v : V} (h : VB v) {i : Nat} (hi : i < v.l.length) : VB v.l[i] := h.ls.mem (List.getElem_mem hi)

section
variable {B : Heap} {b : Nat} {m : Bool} {x : TV}
theorem rd_box (h : B b = some (m, .row (T_api_Value.c x))) : rd B (b, 0) = some (.int .u8 x.Kind) ∧ rd B (b, 1) = some (.int .i64 x.N) ∧ rd B (b, 2) = some (sv x.S) ∧ rd B (b, 3) = some (slv x.L) :=
  ⟨by rw [rd_row h]; rfl, by rw [rd_row h]; rfl, by rw [rd_row h]; rfl, by rw [rd_row h]; rfl⟩
theorem bxK {K : Int → Prop} (h : B b = some (m, .row (T_api_Value.c x))) (k : K x.Kind) : ldI B .u8 ((b, 0).1, (b, 0).2 + 0) K := ⟨_, (rd_box h).1, k⟩
theorem bxN {K : Int → Prop} (h : B b = some (m, .row (T_api_Value.c x))) (k : K x.N) : ldI B .i64 ((b, 0).1, (b, 0).2 + 1) K := ⟨_, (rd_box h).2.1, k⟩
theorem bxS {K : Str → Prop} (h : B b = some (m, .row (T_api_Value.c x))) (k : K x.S) : ldS B ((b, 0).1, (b, 0).2 + 2) K := ⟨_, (rd_box h).2.2.1, k⟩
theorem bxL {K : Sl → Prop} (h : B b = some (m, .row (T_api_Value.c x))) (k : K x.L) : ldL B ((b, 0).1, (b, 0).2 + 3) K := ⟨_, (rd_box h).2.2.2, k⟩
theorem bxV {K : TV → Prop} (h : B b = some (m, .row (T_api_Value.c x))) (k : K x) : ldT B T_api_Value.c (b, 0) K := ⟨x, rds_row h fun j v hj => by simpa using hj, k⟩
end
section
variable {C : Ctx} {H : Heap}
theorem value_depth_ok {v : V} {x : TV} {H : Heap} {m : Nat} {K : Int → Heap → Prop} (hv : VIs H v x) (hB : VB v) (hm : m ≤ 1000) (k : ∀ r : Nat, r ≤ m + 1 → r ≤ dep v → (r = dep v ∨ m + 1 ≤ r) → K r H) : c_value_depth C x m K H := by
  refine V.rec_ (P := fun v => ∀ {x H} {m : Nat} {K : Int → Heap → Prop}, VIs H v x → VB v → m ≤ 1000 → (∀ r : Nat, r ≤ m + 1 → r ≤ dep v → (r = dep v ∨ m + 1 ≤ r) → K r H) → c_value_depth C x m K H) (fun v ih => ?_) v hv hB hm k
  clear hv hB hm k m
  intro x H m K hv hB hm k
  apply c_value_depth.gh
  apply ad_value_depth
  unfold sh_value_depth
  intro b1 n1
  have hr := hv.row
  have hl := hr.len
  have hbl := hB.l
  have hde := dep_eq v
  have hb1 : (H.put b1 (.row (T_api_Value.c x))) b1 = some (true, .row (T_api_Value.c x)) := Heap.put_same ..
  refine ⟨fun y H' => H.le H' ∧ ∃ r : Nat, y = (r : Int) ∧ r ≤ m ∧ r ≤ deps v.l ∧ (r = deps v.l ∨ m ≤ r), ?_, ?_⟩
  rotate_left
  · rintro y H' ⟨hle, r, rfl, h0, h1, h2⟩
    rw [w_i64 (by omega) (by omega)]
    have := k (r + 1) (by omega) (by omega) (by omega)
    exact ⟨H, Gh.le hle, by simpa using this⟩
  refine bxL hb1 ?_
  refine ⟨fun y H' => ∃ i r : Nat, y = ((r : Int), (i : Int)) ∧ i ≤ v.l.length ∧ H.le H' ∧ r ≤ m ∧ r ≤ deps (v.l.take i) ∧ (r = deps (v.l.take i) ∨ m ≤ r), fun y _ => v.l.length - y.2.toNat, ⟨0, 0, rfl, Nat.zero_le _, Heap.le_put n1, Nat.zero_le _, Nat.zero_le _, .inl (by simp [deps])⟩, ?_⟩
  rintro _ H' ⟨i, r, rfl, hi, hle, hr0, hr1, hr2⟩
  have hdti : deps (v.l.take i) ≤ deps v.l := by
    have h1 := deps_append (v.l.take i) (v.l.drop i)
    rw [List.take_append_drop] at h1; omega
  dsimp only
  rw [hl]
  refine ift.of (fun h => ?_) (fun h => ?_)
  · have hlt : i < v.l.length := by have := of_decide_eq_true h; omega
    have hmem := List.getElem_mem hlt
    have hdl := deps_le hmem
    refine hr.ld hle rfl hlt fun y hy => ?_
    intro b20 n20
    refine ⟨_, Heap.put_same .., by simp [T_api_Value.c], ?_⟩
    rw [Heap.put_put]
    have esp : splice (T_api_Value.c T_api_Value.zero) (b20, 0).2 (T_api_Value.c y) = T_api_Value.c y := rfl
    rw [esp]
    have hle2 := hle.trans (Heap.le_put n20 (g := .row (T_api_Value.c y)) (m := true))
    refine ift.of (fun h => ?_) (fun h => ?_)
    · have hge : m ≤ r := by have := of_decide_eq_true h; omega
      exact ⟨hle2, r, rfl, by omega, by omega, .inr hge⟩
    · have hltm : r < m := by have := of_decide_eq_false h; omega
      refine bxV (Heap.put_same ..) ?_
      have em : w .i64 ((m : Int) - 1) = ((m - 1 : Nat) : Int) := by rw [w_i64 (by omega) (by omega)]; omega
      rw [em]
      refine ih _ hmem (hy.le hle2) (hB.at hlt) (by omega) fun q hq0 hq1 hq2 => ?_
      have hdt := deps_take hlt
      rw [w_i64 (by omega) (by omega)]
      refine ⟨⟨i + 1, max q r, ?_, by omega, hle2, by omega, by omega, ?_⟩, by first | omega | (dsimp only; omega)⟩
      · refine Prod.ext ?_ rfl
        dsimp only
        split <;> omega
      · rw [hdt]; omega
  · have hie : i = v.l.length := by have := of_decide_eq_false h; omega
    subst hie
    rw [List.take_length] at hr1 hr2
    exact ⟨hle, r, rfl, hr0, hr1, hr2⟩
end
end Sx
end

noncomputable section
set_option linter.unusedVariables false
set_option linter.unusedSimpArgs false
set_option maxRecDepth 10000
namespace Sx
open Go Go.Proofs
theorem u8eq (c : UInt8) (n : Nat) (hn : n < 256) : ((c.toNat : Int) == (n : Int)) = decide (c = UInt8.ofNat n) := by
  rw [Bool.eq_iff_iff]; simp only [decide_eq_true_eq, beq_iff_eq]
  constructor
  · intro h; exact UInt8.toNat_inj.1 (by rw [UInt8.toNat_ofNat']; omega)
  · rintro rfl; rw [UInt8.toNat_ofNat']; omega
theorem e48 (c : UInt8) : ((c.toNat : Int) == 48) = decide (c = 48) := u8eq c 48 (by omega)
theorem all_take {α : Type} {p : α → Bool} {s : List α} {i : Nat} (h : i < s.length) : (s.take (i + 1)).all p = ((s.take i).all p && p s[i]) := by
  rw [List.take_add_one, List.getElem?_eq_getElem h, Option.toList_some, List.all_append]; simp
theorem all_no {α : Type} {p : α → Bool} {s : List α} {x : α} (h : x ∈ s) (hp : p x = false) : s.all p = false := by
  rw [List.all_eq_false]; exact ⟨x, h, by simp [hp]⟩
theorem getE {s : Str} {i : Nat} (h : i < s.length) : s[((i : Nat) : Int).toNat]? = some s[i] := by simp [h]
theorem getL {s : Str} (h : 0 < s.length) {x : Int} (hx : x = (s.length : Int) - 1) : s[x.toNat]? = some (s.getLast (List.ne_nil_of_length_pos h)) := by
  subst hx
  have : ((s.length : Int) - 1).toNat = s.length - 1 := by omega
  rw [this, List.getElem?_eq_getElem (by omega), List.getLast_eq_getElem]

section
variable {C : Ctx} {H : Heap}
theorem value_name_ok {s : Str} {K : Bool → Heap → Prop} (hs : s.length ≤ 140737488355328) (k : K (nameS s) H) : c_value_name C s K H := by
  apply ad_value_name
  unfold sh_value_name
  refine ⟨fun b H' => H = H' ∧ b = (s.isEmpty || decide (s.length > 32) || decide ((s.headD 0).toNat < 97)), ?_, ?_⟩
  · refine ift.of (fun h => ⟨rfl, ?_⟩) (fun h => ?_)
    · simp only [Bool.or_eq_true, decide_eq_true_eq, beq_iff_eq] at h
      rcases h with rfl | h
      · rfl
      · have : decide (s.length > 32) = true := by rw [decide_eq_true_eq]; omega
        rw [this]; simp
    · cases s with
      | nil => simp at h
      | cons c t =>
        refine ⟨c, by omega, rfl, rfl, ?_⟩
        simp only [Bool.or_eq_false_iff, decide_eq_false_iff_not] at h
        have : decide ((c :: t).length > 32) = false := by rw [decide_eq_false_iff_not]; omega
        rw [this]
        simp only [List.isEmpty_cons, Bool.false_or, List.headD_cons]
        exact (decide_eq_decide.2 (by omega) : decide ((c.toNat : Int) < 97) = decide (c.toNat < 97))
  rintro b _ ⟨rfl, rfl⟩
  refine ⟨fun b H' => H = H' ∧ b = (s.isEmpty || decide (s.length > 32) || !lowC (s.headD 0)), ?_, ?_⟩
  · refine ift.of (fun h => ⟨rfl, ?_⟩) (fun h => ?_)
    · simp only [Bool.or_eq_true, decide_eq_true_eq] at h
      rcases h with (h | h) | h
      · rw [h]; rfl
      · have : decide (s.length > 32) = true := by rw [decide_eq_true_eq]; omega
        rw [this]; simp
      · have : lowC (s.headD 0) = false := by unfold lowC; rw [decide_eq_false (by omega)]; rfl
        rw [this]; simp
    · simp only [Bool.or_eq_false_iff, decide_eq_false_iff_not] at h
      cases s with
      | nil => simp at h
      | cons c t =>
        refine ⟨c, by omega, rfl, rfl, ?_⟩
        have : decide ((c :: t).length > 32) = false := by rw [decide_eq_false_iff_not]; omega
        rw [this]
        simp only [List.isEmpty_cons, Bool.false_or, List.headD_cons] at h ⊢
        unfold lowC
        rw [decide_eq_true (by omega : 97 ≤ c.toNat), Bool.true_and, ← decide_not, decide_eq_decide]; omega
  rintro b _ ⟨rfl, rfl⟩
  refine ift.of (fun h => ?_) (fun h => ?_)
  · have : nameS s = false := by
      unfold nameS
      simp only [Bool.or_eq_true, decide_eq_true_eq, Bool.not_eq_true'] at h
      rcases h with (h | h) | h
      · rw [h]; rfl
      · have : decide (s.length ≤ 32) = false := by rw [decide_eq_false_iff_not]; omega
        rw [this]; simp
      · rw [h]; simp
    rw [this] at k; exact k
  have hn : nameS s = s.all nameC := by
    unfold nameS
    simp only [Bool.or_eq_false_iff, decide_eq_false_iff_not, Bool.not_eq_false'] at h
    have : decide (s.length ≤ 32) = true := by rw [decide_eq_true_eq]; omega
    rw [h.1.1, this, h.2]; simp
  refine ⟨fun x H' => ∃ i : Nat, x = (i : Int) ∧ i ≤ s.length ∧ H = H' ∧ (s.take i).all nameC = true, fun x _ => s.length - x.toNat, ⟨0, rfl, Nat.zero_le _, rfl, rfl⟩, ?_⟩
  rintro x _ ⟨i, rfl, hi, rfl, ha⟩
  refine ift.of (fun h => ?_) (fun h => ?_)
  · have hlt : i < s.length := by have := of_decide_eq_true h; omega
    refine ⟨s[i], by omega, getE hlt, ?_⟩
    dsimp only
    have hm := List.getElem_mem hlt
    have hat := all_take (p := nameC) hlt
    generalize s[i] = c at *
    have e : (!(((((decide ((c.toNat : Int) ≥ 97)) && (decide ((c.toNat : Int) ≤ 122))) || ((decide ((c.toNat : Int) ≥ 65)) && (decide ((c.toNat : Int) ≤ 90)))) || ((decide ((c.toNat : Int) ≥ 48)) && (decide ((c.toNat : Int) ≤ 57)))) || ((c.toNat : Int) == 95))) = !nameC c := by
      unfold nameC lowC
      have h0 : decide ((c.toNat : Int) ≥ 97) = decide (97 ≤ c.toNat) := by rw [decide_eq_decide]; omega
      have h01 : decide ((c.toNat : Int) ≤ 122) = decide (c.toNat ≤ 122) := by rw [decide_eq_decide]; omega
      have h1 : decide ((c.toNat : Int) ≥ 65) = decide (65 ≤ c.toNat) := by rw [decide_eq_decide]; omega
      have h2 : decide ((c.toNat : Int) ≤ 90) = decide (c.toNat ≤ 90) := by rw [decide_eq_decide]; omega
      have h3 : decide ((c.toNat : Int) ≥ 48) = decide (48 ≤ c.toNat) := by rw [decide_eq_decide]; omega
      have h4 : decide ((c.toNat : Int) ≤ 57) = decide (c.toNat ≤ 57) := by rw [decide_eq_decide]; omega
      have h5 : ((c.toNat : Int) == 95) = decide (c.toNat = 95) := by
        rw [Bool.eq_iff_iff]; simp only [beq_iff_eq, decide_eq_true_eq]; omega
      rw [h0, h01, h1, h2, h3, h4, h5]
    rw [e]
    refine ift.of (fun h => ?_) (fun h => ?_)
    · rw [hn, all_no hm (by simpa using h)] at k; exact k
    · rw [w_i64 (by omega) (by omega)]
      refine ⟨⟨i + 1, by omega, by omega, rfl, ?_⟩, by first | omega | (dsimp only; omega)⟩
      rw [hat, ha]; simpa using h
  · have hie : i = s.length := by have := of_decide_eq_false h; omega
    rw [hie, List.take_length] at ha
    rw [hn, ha] at k; exact k

end
end Sx
end

noncomputable section
set_option linter.unusedVariables false
set_option linter.unusedSimpArgs false
set_option maxRecDepth 10000
namespace Sx
open Go Go.Proofs
theorem index_spec (c : UInt8) : ∀ s : Str, (Lib.indexByte s c = -1 ∧ c ∉ s) ∨ ∃ k : Nat, Lib.indexByte s c = (k : Int) ∧ ∃ a b, s = a ++ c :: b ∧ a.length = k ∧ c ∉ a
  | [] => .inl ⟨rfl, by simp⟩
  | b :: s => by
    unfold Lib.indexByte
    by_cases h : b = c
    · subst h
      exact .inr ⟨0, by simp, [], s, rfl, rfl, by simp⟩
    · have hb : (b == c) = false := by simpa using h
      rw [hb]
      rcases index_spec c s with ⟨h1, h2⟩ | ⟨k, h1, a, d, h2, h3, h4⟩
      · left
        rw [h1]
        refine ⟨by simp, by simp [h2, Ne.symm h]⟩
      · right
        refine ⟨k + 1, ?_, b :: a, d, by rw [h2]; rfl, by simp [h3], by simp [h4, Ne.symm h]⟩
        rw [h1]
        have : ((k : Int) == -1) = false := by rw [beq_eq_false_iff_ne]; omega
        simp [this]

def setD (cs : List Value) (l : Str) : List Value := l.foldl (fun cs c => cs.set c.toNat (.bool true)) cs
def setD0 : List Value := List.replicate 256 (.bool false)
def digS : Str := [48, 49, 50, 51, 52, 53, 54, 55, 56, 57]
theorem setD_len (l : Str) : ∀ cs, (setD cs l).length = cs.length := by
  induction l with
  | nil => intro cs; rfl
  | cons c l ih => intro cs; simp only [setD, List.foldl_cons] at ih ⊢; rw [ih]; simp
theorem setD_snoc (l : Str) (c : UInt8) (cs : List Value) : setD cs (l ++ [c]) = (setD cs l).set c.toNat (.bool true) := by simp [setD]
theorem setD_b (l : Str) : ∀ cs : List Value, cs.all Value.oneCell' = true → (setD cs l).all Value.oneCell' = true := by
  induction l with
  | nil => intro cs h; exact h
  | cons c l ih =>
    intro cs h
    simp only [setD, List.foldl_cons] at ih ⊢
    refine ih _ ?_
    rw [List.all_eq_true] at h ⊢
    intro x hx
    rcases List.mem_or_eq_of_mem_set hx with hx | rfl
    · exact h x hx
    · rfl
theorem setD_get : ∀ n : Nat, n < 256 → (match (setD setD0 digS)[n]? with | some (.bool b) => b == (decide (48 ≤ n) && decide (n ≤ 57)) | _ => false) = true := by decide +kernel
theorem setD_dig (c : UInt8) : (setD setD0 digS)[c.toNat]? = some (.bool (digC c)) := by
  have h := setD_get c.toNat c.toBitVec.isLt
  unfold digC
  generalize (setD setD0 digS)[c.toNat]? = o at *
  cases o with
  | none => simp at h
  | some v => cases v <;> simp at h ⊢; exact h

section
variable {C : Ctx} {H : Heap}
theorem hasPrefix_ok {s p : Str} {K : Bool → Heap → Prop} (k : K (p.isPrefixOf s) H) : c_internal_stringslite_HasPrefix C s p K H := by
  apply ad_internal_stringslite_HasPrefix
  unfold sh_internal_stringslite_HasPrefix
  refine ⟨fun b H' => H = H' ∧ b = p.isPrefixOf s, ?_, ?_⟩
  · refine ift.of (fun h => ?_) (fun h => ⟨rfl, ?_⟩)
    · have hl : p.length ≤ s.length := by have := of_decide_eq_true h; omega
      refine ⟨by omega, by omega, by omega, s.take p.length, by simp, rfl, ?_⟩
      rw [Bool.eq_iff_iff, List.isPrefixOf_iff_prefix, beq_iff_eq, List.prefix_iff_eq_take]
      exact ⟨fun h => h.symm, fun h => h.symm⟩
    · have hl := of_decide_eq_false h
      cases hh : p.isPrefixOf s with
      | false => rfl
      | true =>
        have := (List.isPrefixOf_iff_prefix.1 hh).length_le
        omega
  · rintro b _ ⟨rfl, rfl⟩
    exact k
theorem trimPrefix_ok {s p : Str} {K : Str → Heap → Prop} (k : K (if p.isPrefixOf s then s.drop p.length else s) H) : c_strings_TrimPrefix C s p K H := by
  apply ad_strings_TrimPrefix
  unfold sh_strings_TrimPrefix
  apply ad_internal_stringslite_TrimPrefix
  unfold sh_internal_stringslite_TrimPrefix
  refine hasPrefix_ok ?_
  refine ift.of (fun h => ?_) (fun h => ?_)
  · rw [if_pos h] at k
    have := (List.isPrefixOf_iff_prefix.1 h).length_le
    exact ⟨by omega, by omega, by omega, _, by simp, k⟩
  · rw [if_neg (by rw [h]; decide)] at k; exact k

theorem cutDot_ok {s : Str} {K : Str → Str → Bool → Heap → Prop} (hs : s.length ≤ 140737488355328) (k : match cutD s with | some (a, b) => K a b true H | none => K s [] false H) : c_strings_Cut C s [46] K H := by
  apply ad_strings_Cut
  unfold sh_strings_Cut
  apply ad_internal_stringslite_Cut
  unfold sh_internal_stringslite_Cut
  have key : ∀ {K : Int → Heap → Prop}, K (Lib.indexByte s 46) H → c_internal_stringslite_Index C s [46] K H := by
    intro K k
    apply ad_internal_stringslite_Index
    unfold sh_internal_stringslite_Index
    refine ift.of (fun h => ?_) (fun h => ?_)
    · have hs : [46] = s := by simpa using h
      subst hs
      exact k
    · refine ift_pos rfl ⟨46, by omega, rfl, ?_⟩
      apply ad_internal_stringslite_IndexByte
      unfold sh_internal_stringslite_IndexByte
      exact k
  refine key ?_
  rcases index_spec 46 s with ⟨h1, h2⟩ | ⟨i, h1, a, b, h2, h3, h4⟩
  · rw [h1]
    rw [cutD_no s h2] at k
    exact ift_neg rfl k
  · rw [h1]
    subst h2
    rw [cutD_at a b h4] at k
    subst h3
    simp only [List.length_append, List.length_cons] at hs
    refine ift_pos (by rw [decide_eq_true_eq]; omega) ?_
    refine ⟨by omega, by omega, by simp; omega, a, by simp, ?_⟩
    have e1 : (([46] : Str).length : Int) = 1 := rfl
    rw [e1, w_i64 (by omega) (by omega)]
    refine ⟨by omega, by simp; omega, by omega, b, ?_, k⟩
    have e2 : ((a.length : Int) + 1).toNat = a.length + 1 := by omega
    rw [List.take_of_length_le (by omega), e2, List.drop_append]
    simp

/-- the set of digits -/
def DSet (H : Heap) (b : Nat) : Prop := H b = some (true, .row (setD setD0 digS))
theorem contains_ok {b : Nat} {c : UInt8} {K : Bool → Heap → Prop} (h : DSet H b) (k : K (digC c) H) : c_strings_asciiSet_contains C (some (b, 0)) (c.toNat : Int) K H := by
  apply ad_strings_asciiSet_contains
  unfold sh_strings_asciiSet_contains
  refine ⟨(b, 0), rfl, by omega, by have := c.toBitVec.isLt; have : c.toNat < 256 := this; omega, digC c, ?_, k⟩
  rw [rd_row h]
  have := setD_dig c
  simpa using this
theorem trimR_ok {b : Nat} {s : Str} {K : Str → Heap → Prop} (hs : s.length ≤ 140737488355328) (h : DSet H b) (k : ∀ t, t.length ≤ s.length → t.all digC = s.all digC → K t H) : c_strings_trimRightASCII C s (some (b, 0)) K H := by
  apply ad_strings_trimRightASCII
  unfold sh_strings_trimRightASCII
  refine ⟨fun t H' => H = H' ∧ t.length ≤ s.length ∧ t.all digC = s.all digC, ?_, ?_⟩
  rotate_left
  · rintro t _ ⟨rfl, h1, h2⟩
    exact k t h1 h2
  refine ⟨fun t H' => H = H' ∧ t.length ≤ s.length ∧ t.all digC = s.all digC, fun t _ => t.length, ⟨rfl, Nat.le_refl _, rfl⟩, ?_⟩
  rintro t _ ⟨rfl, h1, h2⟩
  refine ift.of (fun hh => ?_) (fun hh => ⟨rfl, h1, h2⟩)
  have hl : 0 < t.length := by have := of_decide_eq_true hh; omega
  have hne := List.ne_nil_of_length_pos hl
  have hd : t.dropLast ++ [t.getLast hne] = t := List.dropLast_concat_getLast hne
  rw [w_i64 (by omega) (by omega)]
  refine ⟨t.getLast hne, by omega, getL hl rfl, ?_⟩
  refine contains_ok h ?_
  refine ift.of (fun hc => ⟨rfl, h1, h2⟩) (fun hc => ?_)
  have e1 : (t.take ((t.length : Int) - 1).toNat).drop (0 : Int).toNat = t.dropLast := by
    have : ((t.length : Int) - 1).toNat = t.length - 1 := by omega
    rw [this, List.dropLast_eq_take]; simp
  refine ⟨by omega, by omega, by omega, _, e1.symm, ?_⟩
  have hdl := List.length_dropLast (xs := t)
  refine ⟨⟨rfl, by omega, ?_⟩, by dsimp only; omega⟩
  rw [← h2]
  conv => rhs; rw [← hd]
  rw [List.all_append]
  simp at hc
  simp [hc]
theorem trimL_ok {b : Nat} {s : Str} {K : Str → Heap → Prop} (hs : s.length ≤ 140737488355328) (h : DSet H b) (k : ∀ t, t.all digC = s.all digC → (t = [] ∨ t.all digC = false) → K t H) : c_strings_trimLeftASCII C s (some (b, 0)) K H := by
  apply ad_strings_trimLeftASCII
  unfold sh_strings_trimLeftASCII
  refine ⟨fun t H' => H = H' ∧ t.all digC = s.all digC ∧ (t = [] ∨ t.all digC = false), ?_, ?_⟩
  rotate_left
  · rintro t _ ⟨rfl, h1, h2⟩
    exact k t h1 h2
  refine ⟨fun t H' => H = H' ∧ t.length ≤ s.length ∧ t.all digC = s.all digC, fun t _ => t.length, ⟨rfl, Nat.le_refl _, rfl⟩, ?_⟩
  rintro t _ ⟨rfl, h1, h2⟩
  cases t with
  | nil => exact ift_neg rfl ⟨rfl, h2, .inl rfl⟩
  | cons c t =>
    refine ift_pos (by rw [decide_eq_true_eq]; simp only [List.length_cons]; omega) ?_
    refine ⟨c, by omega, rfl, ?_⟩
    refine contains_ok h ?_
    refine ift.of (fun hc => ⟨rfl, h2, .inr ?_⟩) (fun hc => ?_)
    · simp at hc; simp [hc]
    · refine ⟨by omega, by simp only [List.length_cons]; omega, by omega, t, ?_, ⟨rfl, by simp only [List.length_cons] at h1; omega, ?_⟩, by simp⟩
      · rw [List.take_of_length_le (by omega)]; rfl
      · rw [← h2]; simp at hc; simp [hc]

theorem makeDigits_ok {K : List Value → Bool → Heap → Prop} (k : K (setD setD0 digS) true H) : c_strings_makeASCIISet C digS K H := by
  apply c_strings_makeASCIISet.gh
  apply ad_strings_makeASCIISet
  unfold sh_strings_makeASCIISet
  intro b n
  refine ⟨fun x H' => ∃ i : Nat, x = (i : Int) ∧ i ≤ 10 ∧ H' = H.put b (.row (setD setD0 (digS.take i))), fun x _ => 10 - x.toNat, ⟨0, rfl, by omega, rfl⟩, ?_⟩
  rintro x _ ⟨i, rfl, hi, rfl⟩
  have hlen : (setD setD0 (digS.take i)).length = 256 := by rw [setD_len]; simp [setD0]
  refine ift.of (fun h => ?_) (fun h => ?_)
  · have hlt : i < digS.length := by have := of_decide_eq_true h; omega
    have hlt' : i < 10 := hlt
    refine ⟨digS[i], by omega, getE hlt, ?_⟩
    have hm : ∀ c ∈ digS, c.toNat < 128 := by decide
    have h128 := hm _ (List.getElem_mem hlt)
    have htk : digS.take (i + 1) = digS.take i ++ [digS[i]] := by rw [List.take_add_one, List.getElem?_eq_getElem hlt]; rfl
    generalize digS[i] = c at *
    refine ift_neg (by rw [decide_eq_false_iff_not]; omega) ?_
    refine ⟨by omega, by omega, _, Heap.put_same .., by rw [hlen]; simp; omega, ?_⟩
    rw [w_i64 (by omega) (by omega), Heap.put_put]
    refine ⟨⟨i + 1, by omega, by omega, ?_⟩, by first | omega | (dsimp only; omega)⟩
    rw [htk, setD_snoc]
    have : (b, 0).2 + (c.toNat : Int).toNat * 1 = c.toNat := by simp
    rw [this]
  · have hi10 : i = 10 := by have := of_decide_eq_false h; have : digS.length = 10 := rfl; omega
    subst hi10
    have e : digS.take 10 = digS := rfl
    rw [e] at hlen ⊢
    have hr : ∀ {B : Heap}, B b = some (true, .row (setD setD0 digS)) → rds B (b, 0) (setD setD0 digS) := fun h => rds_row h fun j v hj => by simpa using hj
    refine ⟨_, hlen, hr (Heap.put_same ..), hlen, setD_b _ _ (by decide +kernel), _, Heap.put_same .., by simp, ?_⟩
    have esp : splice (setD setD0 digS) (b, 0).2 (setD setD0 digS) = setD setD0 digS := by
      unfold splice; simp
    rw [esp, Heap.put_put]
    exact ⟨_, hlen, hr (Heap.put_same ..), H, Gh.le (Heap.le_put n), k⟩

theorem trimDig_ok {s : Str} {K : Str → Heap → Prop} (hs : s.length ≤ 140737488355328) (k : ∀ t, (t = [] ↔ s.all digC = true) → K t H) : c_strings_Trim C s digS K H := by
  apply c_strings_Trim.gh
  apply ad_strings_Trim
  unfold sh_strings_Trim
  refine ift.of (fun h => ?_) (fun h => ?_)
  · have : s = [] := by simpa [digS] using h
    subst this
    exact ⟨H, Gh.refl _, k [] (by simp)⟩
  refine ⟨fun b H' => H = H' ∧ b = false, ift_neg rfl ⟨rfl, rfl⟩, ?_⟩
  rintro _ _ ⟨rfl, rfl⟩
  refine ift_neg rfl ?_
  refine makeDigits_ok ?_
  intro b n
  have hlen : (setD setD0 digS).length = 256 := by rw [setD_len]; simp [setD0]
  refine ⟨hlen, setD_b _ _ (by decide +kernel), _, Heap.put_same .., by rw [hlen]; simp, ?_⟩
  have esp : splice (List.replicate 256 (.bool false : Value)) (b, 0).2 (setD setD0 digS) = setD setD0 digS := by
    unfold splice; simp [hlen]
  rw [esp, Heap.put_put]
  refine ift_pos rfl ?_
  refine trimR_ok hs (Heap.put_same ..) fun t ht1 ht2 => ?_
  refine trimL_ok (by omega) (Heap.put_same ..) fun u hu1 hu2 => ?_
  refine ⟨H, Gh.le (Heap.le_put n), k u ?_⟩
  rw [← ht2, ← hu1]
  constructor
  · rintro rfl; rfl
  · intro h
    rcases hu2 with h2 | h2
    · exact h2
    · rw [h] at h2; cases h2

theorem value_number_ok {s : Str} {K : Int → Bool → Heap → Prop} (hs : s.length ≤ 140737488355328) (k : K (if numS s then (digits s : Int) else 0) (numS s) H) : c_value_number C s K H := by
  apply ad_value_number
  unfold sh_value_number
  refine trimPrefix_ok ?_
  have e : (if ([45] : Str).isPrefixOf s then s.drop ([45] : Str).length else s) = unmin s := by
    unfold unmin
    cases s with
    | nil => rfl
    | cons c t =>
      by_cases hc : c = 45
      · subst hc; simp [List.isPrefixOf]
      · simp [List.isPrefixOf, hc, Ne.symm hc]
  rw [e]
  have hul : (unmin s).length ≤ s.length := by unfold unmin; split <;> simp
  have hdg : digits s = (unmin s).length := rfl
  have hnu : numS s = (!(unmin s).isEmpty && (unmin s).all digC && !(decide ((unmin s).head? = some 48) && decide (s ≠ [48]))) := rfl
  rw [hdg, hnu] at k
  clear hdg hnu e
  generalize unmin s = d at *
  refine ⟨fun b H' => H = H' ∧ b = !(!d.isEmpty && d.all digC), ?_, ?_⟩
  · refine ift.of (fun h => ⟨rfl, ?_⟩) (fun h => ?_)
    · have : d = [] := by simpa using h
      subst this; rfl
    · have hne : d ≠ [] := by simpa using h
      refine trimDig_ok (by omega) fun t ht => ⟨rfl, ?_⟩
      have he : d.isEmpty = false := by cases d with
        | nil => exact absurd rfl hne
        | cons _ _ => rfl
      rw [he]
      cases hd : d.all digC with
      | true => rw [ht.2 hd]; rfl
      | false =>
        have : t ≠ [] := fun e => by rw [ht.1 e] at hd; cases hd
        simpa using this
  rintro b _ ⟨rfl, rfl⟩
  refine ⟨fun b H' => H = H' ∧ b = !(!d.isEmpty && d.all digC && !(decide (d.head? = some 48) && decide (s ≠ [48]))), ?_, ?_⟩
  · refine ift.of (fun h => ⟨rfl, ?_⟩) (fun h => ?_)
    · simp only [Bool.not_eq_true'] at h
      rw [h]; rfl
    · simp only [Bool.not_eq_false'] at h
      rw [h]
      cases d with
      | nil => simp at h
      | cons c t =>
        refine ⟨c, by omega, rfl, rfl, ?_⟩
        rw [e48]
        simp only [List.head?_cons, Option.some.injEq, Bool.true_and, Bool.not_not]
        congr 1
        rw [decide_not]; congr 1
        rw [Bool.eq_iff_iff]; simp
  rintro b _ ⟨rfl, rfl⟩
  refine ift.of (fun h => ?_) (fun h => ?_)
  · simp only [Bool.not_eq_true'] at h
    rw [h] at k; exact k
  · simp only [Bool.not_eq_false'] at h
    rw [h] at k; exact k
end
end Sx
end

noncomputable section
set_option linter.unusedVariables false
set_option linter.unusedSimpArgs false
set_option maxRecDepth 10000
namespace Sx
open Go Go.Proofs
section
variable {C : Ctx} {H : Heap}
theorem sEmpty {s : Str} : (s == ([] : Str)) = s.isEmpty := by cases s <;> rfl
theorem lenZ {l : List V} {n : Nat} (h : n = l.length) (m : Nat) : ((n : Int) == (m : Int)) = decide (l.length = m) := by
  rw [Bool.eq_iff_iff]; simp only [beq_iff_eq, decide_eq_true_eq]; omega

theorem okN_num {k n : Int} {s : Str} {m : Nat} (h : okN k n s m = true) (hk : k = 3) : numS s = true := by
  unfold okN at h
  rw [if_neg (by omega), if_neg (by omega), if_pos hk] at h
  simp only [Bool.and_eq_true] at h
  exact h.1.1

end
end Sx
end

noncomputable section
set_option linter.unusedVariables false
set_option linter.unusedSimpArgs false
set_option maxRecDepth 10000
namespace Sx
open Go Go.Proofs
theorem names_cut (s : Str) : namesS s = (match cutD s with | some (a, b) => nameS a && nameS b | none => nameS s && !decide (s = trueS) && !decide (s = falseS)) := by
  unfold namesS
  by_cases ht : s = trueS
  · subst ht; rfl
  by_cases hf : s = falseS
  · subst hf; rfl
  rw [if_neg (fun h => h.elim ht hf)]
  cases hc : cutD s with
  | none => simp [ht, hf]
  | some p => rfl

section
variable {C : Ctx} {H : Heap}
theorem look_ok {v : V} {x : TV} {H : Heap} {K : Bool → Bool → Heap → Prop} (hv : VIs H v x) (hB : VB v) (k : ∀ g, (formV v = true → g = fitsV v) → K (formV v) g H) : c_value_item_look C x K H := by
  refine V.rec_ (P := fun v => ∀ {x H} {K : Bool → Bool → Heap → Prop}, VIs H v x → VB v → (∀ g, (formV v = true → g = fitsV v) → K (formV v) g H) → c_value_item_look C x K H) (fun v ih => ?_) v hv hB k
  clear hv hB k
  intro x H K hv hB k
  apply c_value_item_look.gh
  apply ad_value_item_look
  unfold sh_value_item_look
  intro b1 n1
  have hr := hv.row
  have hl := hr.len
  have hbl := hB.l
  have hbs := hB.s
  have hk := hv.kind
  have hn := hv.num
  have ht := hv.txt
  have hb1 : (H.put b1 (.row (T_api_Value.c x))) b1 = some (true, .row (T_api_Value.c x)) := Heap.put_same ..
  have hle1 := Heap.le_put n1 (g := .row (T_api_Value.c x)) (m := true)
  generalize H.put b1 (.row (T_api_Value.c x)) = H1 at *
  refine bxN hb1 ?_
  refine ⟨fun b H' => H1 = H', ?_, ?_⟩
  · exact ift.of (fun _ => bxS hb1 rfl) (fun _ => rfl)
  rintro _ _ rfl
  refine ⟨fun b H' => H1 = H', ?_, ?_⟩
  · exact ift.of (fun _ => bxL hb1 rfl) (fun _ => rfl)
  rintro _ _ rfl
  refine ⟨fun b H' => H1 = H' ∧ b.1 = okN v.k v.n v.s v.l.length ∧ (b.1 = true → b.2 = fitN v.k v.s v.l.length), ?_, ?_⟩
  rotate_left
  · rintro ⟨o, g⟩ _ ⟨rfl, ho, hg⟩
    dsimp only at ho hg ⊢
    subst ho
    refine bxL hb1 ?_
    refine ⟨fun y H' => ∃ i : Nat, y.2.2 = (i : Int) ∧ i ≤ v.l.length ∧ H.le H' ∧ y.1 = (okN v.k v.n v.s v.l.length && formVs (v.l.take i)) ∧ (y.1 = true → y.2.1 = (fitN v.k v.s v.l.length && fitsVs (v.l.take i))), fun y _ => v.l.length - y.2.2.toNat, ⟨0, rfl, Nat.zero_le _, hle1, by simp [formVs], fun h => by simp [fitsVs, hg h]⟩, ?_⟩
    rintro ⟨f, g', y⟩ H2 ⟨i, hy, hi, hle, h1, h2⟩
    dsimp only at hy h1 h2
    subst hy
    dsimp only
    rw [hl]
    refine ift.of (fun h => ?_) (fun h => ?_)
    · have hlt : i < v.l.length := by have := of_decide_eq_true h; omega
      have hmem := List.getElem_mem hlt
      refine hr.ld hle rfl hlt fun z hz => ?_
      intro b20 n20
      refine ⟨_, Heap.put_same .., by simp [T_api_Value.c], ?_⟩
      rw [Heap.put_put]
      have esp : splice (T_api_Value.c T_api_Value.zero) (b20, 0).2 (T_api_Value.c z) = T_api_Value.c z := rfl
      rw [esp]
      have hle2 := hle.trans (Heap.le_put n20 (g := .row (T_api_Value.c z)) (m := true))
      refine bxV (Heap.put_same ..) ?_
      refine ih _ hmem (hz.le hle2) (hB.at hlt) fun q hq => ?_
      rw [w_i64 (by omega) (by omega)]
      refine ⟨⟨i + 1, by omega, by omega, hle2, ?_, fun hh => ?_⟩, by first | omega | (dsimp only; omega)⟩
      · rw [h1, formVs_take hlt, Bool.and_assoc]
      · rw [Bool.and_eq_true] at hh
        rw [h2 hh.1, fitsVs_take hlt, hq hh.2, Bool.and_assoc]
    · have hie : i = v.l.length := by have := of_decide_eq_false h; omega
      subst hie
      rw [List.take_length] at h1 h2
      rw [← formV_eq] at h1
      rw [← fitsV_eq] at h2
      refine ⟨H, Gh.le hle, ?_⟩
      rw [h1] at h2 ⊢
      exact k g' h2
  refine bxK hb1 ?_
  rw [hk]
  refine ift.of (fun h => ?_) (fun h => ?_)
  · have h : v.k = 1 := by simpa using h
    have eo : okN v.k v.n v.s v.l.length = ((v.n == 0 || v.n == 1) && v.s.isEmpty && decide (v.l.length = 0)) := by rw [h]; rfl
    have ef : fitN v.k v.s v.l.length = true := by rw [h]; rfl
    rw [eo, ef]
    refine bxN hb1 ?_
    refine ⟨fun b H' => H1 = H' ∧ b = (v.n == 0 || v.n == 1), ?_, ?_⟩
    · rw [hn]
      refine ift.of (fun h => ⟨rfl, by rw [h]; rfl⟩) (fun h => ?_)
      refine bxN hb1 ⟨rfl, ?_⟩
      rw [h, hn]; rfl
    rintro _ _ ⟨rfl, rfl⟩
    refine ⟨fun b H' => H1 = H' ∧ b = ((v.n == 0 || v.n == 1) && v.s.isEmpty), ?_, ?_⟩
    · refine ift.of (fun h => ?_) (fun h => ⟨rfl, by rw [h]; rfl⟩)
      refine bxS hb1 ⟨rfl, ?_⟩
      rw [h, ht, sEmpty]; rfl
    rintro _ _ ⟨rfl, rfl⟩
    refine ⟨fun b H' => H1 = H' ∧ b = ((v.n == 0 || v.n == 1) && v.s.isEmpty && decide (v.l.length = 0)), ?_, ?_⟩
    · refine ift.of (fun h => ?_) (fun h => ⟨rfl, by rw [h]; rfl⟩)
      refine bxL hb1 ⟨rfl, ?_⟩
      rw [h]; exact lenZ hl 0
    rintro _ _ ⟨rfl, rfl⟩
    exact ⟨rfl, rfl, fun _ => rfl⟩
  have g1 : v.k ≠ 1 := by simpa using h
  refine ift.of (fun h => ?_) (fun h => ?_)
  · have h : v.k = 2 := by simpa using h
    have eo : okN v.k v.n v.s v.l.length = (v.s.isEmpty && decide (v.l.length = 0)) := by rw [h]; rfl
    have ef : fitN v.k v.s v.l.length = true := by rw [h]; rfl
    rw [eo, ef]
    refine bxS hb1 ?_
    refine ⟨fun b H' => H1 = H' ∧ b = (v.s.isEmpty && decide (v.l.length = 0)), ?_, ?_⟩
    · rw [ht, sEmpty]
      refine ift.of (fun h => ?_) (fun h => ⟨rfl, by rw [h]; rfl⟩)
      refine bxL hb1 ⟨rfl, ?_⟩
      rw [h]; exact lenZ hl 0
    rintro _ _ ⟨rfl, rfl⟩
    exact ⟨rfl, rfl, fun _ => rfl⟩
  have g2 : v.k ≠ 2 := by simpa using h
  refine ift.of (fun h => ?_) (fun h => ?_)
  · have h : v.k = 3 := by simpa using h
    have eo : okN v.k v.n v.s v.l.length = (numS v.s && v.n == 0 && decide (v.l.length = 0)) := by rw [h]; rfl
    have ef : fitN v.k v.s v.l.length = decide (digits v.s ≤ 200) := by rw [h]; rfl
    rw [eo, ef]
    refine bxS hb1 ?_
    rw [ht]
    refine value_number_ok hbs ?_
    refine ⟨fun b H' => H1 = H' ∧ b = (numS v.s && v.n == 0), ?_, ?_⟩
    · refine ift.of (fun h => ?_) (fun h => ⟨rfl, by rw [h]; rfl⟩)
      refine bxN hb1 ⟨rfl, ?_⟩
      rw [h, hn]; rfl
    rintro _ _ ⟨rfl, rfl⟩
    refine ⟨fun b H' => H1 = H' ∧ b = (numS v.s && v.n == 0 && decide (v.l.length = 0)), ?_, ?_⟩
    · refine ift.of (fun h => ?_) (fun h => ⟨rfl, by rw [h]; rfl⟩)
      refine bxL hb1 ⟨rfl, ?_⟩
      rw [h]; exact lenZ hl 0
    rintro _ _ ⟨rfl, rfl⟩
    refine ⟨rfl, rfl, fun hh => ?_⟩
    dsimp only at hh ⊢
    simp only [Bool.and_eq_true] at hh
    rw [hh.1.1, if_pos rfl, decide_eq_decide]; omega
  have g3 : v.k ≠ 3 := by simpa using h
  refine ift.of (fun h => ?_) (fun h => ?_)
  · have h : v.k = 4 := by simpa using h
    have eo : okN v.k v.n v.s v.l.length = (v.n == 0 && decide (v.l.length = 0)) := by rw [h]; rfl
    have ef : fitN v.k v.s v.l.length = decide (v.s.length ≤ 4096) := by rw [h]; rfl
    rw [eo, ef]
    have ed : decide ((v.s.length : Int) ≤ 4096) = decide (v.s.length ≤ 4096) := by rw [decide_eq_decide]; omega
    refine ⟨fun b H' => H1 = H' ∧ b = ((v.n == 0 && decide (v.l.length = 0)), decide (v.s.length ≤ 4096)), ?_, ?_⟩
    · refine ⟨H1, Heap.le.refl _, bxN hb1 (bxS hb1 ?_)⟩
      rw [hn, ht, ed]
      refine ift.of (fun h => ?_) (fun h => ⟨rfl, by rw [h]; rfl⟩)
      refine bxL hb1 ⟨rfl, ?_⟩
      rw [h, show ((x.L.len : Int) == 0) = decide (v.l.length = 0) from lenZ hl 0]; rfl
    rintro _ _ ⟨rfl, rfl⟩
    exact ⟨rfl, rfl, fun _ => rfl⟩
  have g4 : v.k ≠ 4 := by simpa using h
  refine ift.of (fun h => ?_) (fun h => ?_)
  · have h : v.k = 5 := by simpa using h
    have eo : okN v.k v.n v.s v.l.length = (v.n == 0 && v.s.isEmpty && decide (v.l.length ≠ 1)) := by rw [h]; rfl
    have ef : fitN v.k v.s v.l.length = decide (v.l.length ≤ 16) := by rw [h]; rfl
    rw [eo, ef]
    have ed : decide ((x.L.len : Int) ≤ 16) = decide (v.l.length ≤ 16) := by rw [decide_eq_decide]; omega
    refine ⟨fun b H' => H1 = H' ∧ b = ((v.n == 0 && v.s.isEmpty && decide (v.l.length ≠ 1)), decide (v.l.length ≤ 16)), ?_, ?_⟩
    · refine ⟨H1, Heap.le.refl _, bxN hb1 (bxL hb1 ?_)⟩
      rw [hn, ed]
      refine ift.of (fun h => ?_) (fun h => ⟨rfl, by rw [h]; rfl⟩)
      refine bxS hb1 ?_
      rw [ht, sEmpty]
      refine ift.of (fun h2 => ?_) (fun h2 => ⟨rfl, by rw [h2]; simp⟩)
      refine bxL hb1 ⟨rfl, ?_⟩
      rw [h, h2, bne, show ((x.L.len : Int) == 1) = decide (v.l.length = 1) from lenZ hl 1, decide_not]; rfl
    rintro _ _ ⟨rfl, rfl⟩
    exact ⟨rfl, rfl, fun _ => rfl⟩
  have g5 : v.k ≠ 5 := by simpa using h
  refine ift.of (fun h => ?_) (fun h => ?_)
  · have h : v.k = 6 := by simpa using h
    have eo : okN v.k v.n v.s v.l.length = (v.n == 0 && namesS v.s) := by rw [h]; rfl
    have ef : fitN v.k v.s v.l.length = decide (v.l.length ≤ 8) := by rw [h]; rfl
    rw [eo, ef]
    have ed : decide ((x.L.len : Int) ≤ 8) = decide (v.l.length ≤ 8) := by rw [decide_eq_decide]; omega
    refine bxS hb1 ?_
    rw [ht]
    refine cutDot_ok hbs ?_
    have key : ∀ (a b : Str) (two : Bool), a.length ≤ 140737488355328 → b.length ≤ 140737488355328 → namesS v.s = (if two then nameS a && nameS b else nameS a && !decide (v.s = trueS) && !decide (v.s = falseS)) →
        jn (α := Bool × Bool) (fun x118 H119 => H1 = H119 ∧ x118.1 = (v.n == 0 && namesS v.s) ∧ (x118.1 = true → x118.2 = decide (v.l.length ≤ 8)))
          (fun J117 => dr H1 fun Hs121 =>
          ldI Hs121 .i64 ((b1, 0).1, (b1, 0).2 + 1) fun x123 =>
          ldL Hs121 ((b1, 0).1, (b1, 0).2 + 3) fun x125 =>
          ift ((x123 : Int) == 0)
          (c_value_name C a (fun r129 H130 =>
          Heap.le Hs121 H130 ∧
          ift r129
          (ift two
          (c_value_name C b (fun r134 H135 =>
          Heap.le Hs121 H135 ∧
          ift r134
          (J117 (true, (decide (((Sl.len x125 : Int) : Int) ≤ 8))) H135)
          (ift (!two)
          (ldS Hs121 ((b1, 0).1, (b1, 0).2 + 2) fun x138 =>
          ift (!(x138 == ([116, 114, 117, 101] : Str)))
          (ldS Hs121 ((b1, 0).1, (b1, 0).2 + 2) fun x141 =>
          J117 ((!(x141 == ([102, 97, 108, 115, 101] : Str))), (decide (((Sl.len x125 : Int) : Int) ≤ 8))) H135)
          (J117 (false, (decide (((Sl.len x125 : Int) : Int) ≤ 8))) H135))
          (J117 (false, (decide (((Sl.len x125 : Int) : Int) ≤ 8))) H135))) H130)
          (ift (!two)
          (ldS Hs121 ((b1, 0).1, (b1, 0).2 + 2) fun x144 =>
          ift (!(x144 == ([116, 114, 117, 101] : Str)))
          (ldS Hs121 ((b1, 0).1, (b1, 0).2 + 2) fun x147 =>
          J117 ((!(x147 == ([102, 97, 108, 115, 101] : Str))), (decide (((Sl.len x125 : Int) : Int) ≤ 8))) H130)
          (J117 (false, (decide (((Sl.len x125 : Int) : Int) ≤ 8))) H130))
          (J117 (false, (decide (((Sl.len x125 : Int) : Int) ≤ 8))) H130)))
          (J117 (false, (decide (((Sl.len x125 : Int) : Int) ≤ 8))) H130)) H1)
          (J117 (false, (decide (((Sl.len x125 : Int) : Int) ≤ 8))) H1)) := by
      intro a b two ha hb hns
      refine ⟨fun y H' => H1 = H' ∧ y = ((v.n == 0 && namesS v.s), decide (v.l.length ≤ 8)), ?_, ?_⟩
      · refine ⟨H1, Heap.le.refl _, bxN hb1 (bxL hb1 ?_)⟩
        rw [hn, ed]
        refine ift.of (fun h => ?_) (fun h => ⟨rfl, by rw [h]; rfl⟩)
        refine value_name_ok ha ⟨Heap.le.refl _, ?_⟩
        rw [h, hns]
        refine ift.of (fun h2 => ?_) (fun h2 => ⟨rfl, by rw [h2]; cases two <;> rfl⟩)
        rw [h2]
        have eq : ∀ t : Str, (v.s == t) = decide (v.s = t) := fun t => by rw [Bool.eq_iff_iff]; simp
        cases two with
        | true =>
          refine ift_pos rfl ?_
          refine value_name_ok hb ⟨Heap.le.refl _, ?_⟩
          exact ift.of (fun h3 => ⟨rfl, by rw [h3]; rfl⟩) (fun h3 => ift_neg rfl ⟨rfl, by rw [h3]; rfl⟩)
        | false =>
          refine ift_neg rfl (ift_pos rfl ?_)
          refine bxS hb1 ?_
          rw [ht, show (v.s == ([116, 114, 117, 101] : Str)) = decide (v.s = trueS) from eq _]
          refine ift.of (fun h3 => ?_) (fun h3 => ⟨rfl, ?_⟩)
          · refine bxS hb1 ⟨rfl, ?_⟩
            rw [ht, show (v.s == ([102, 97, 108, 115, 101] : Str)) = decide (v.s = falseS) from eq _, h3]; rfl
          · rw [h3]; rfl
      · rintro _ _ ⟨rfl, rfl⟩
        exact ⟨rfl, rfl, fun _ => rfl⟩
    have hc := names_cut v.s
    cases hcd : cutD v.s with
    | none =>
      rw [hcd] at hc
      exact key _ _ _ hbs (by simp) hc
    | some p =>
      obtain ⟨a, b⟩ := p
      rw [hcd] at hc
      have hlen : a.length ≤ v.s.length ∧ b.length ≤ v.s.length := by
        by_cases hm : (46 : UInt8) ∈ v.s
        · obtain ⟨a', b', e1, e2⟩ := cutD_mem _ hm
          have := cutD_at a' b' e2
          rw [← e1, hcd] at this
          injection this with this; injection this with h1 h2
          subst h1; subst h2
          rw [e1]; simp; omega
        · rw [cutD_no _ hm] at hcd; cases hcd
      exact key _ _ _ (by omega) (by omega) hc
  have g6 : v.k ≠ 6 := by simpa using h
  have eo : okN v.k v.n v.s v.l.length = false := by unfold okN; rw [if_neg g1, if_neg g2, if_neg g3, if_neg g4, if_neg g5, if_neg g6]
  rw [eo]
  exact ⟨rfl, rfl, fun hh => by cases hh⟩

theorem value_Check_ok {v : V} {x : TV} {H : Heap} {K : Int → Heap → Prop} (hv : VIs H v x) (hB : VB v) (k : K (checkV v) H) : c_value_Check C x K H := by
  apply c_value_Check.gh
  apply ad_value_Check
  unfold sh_value_Check
  intro b1 n1
  have hb1 : (H.put b1 (.row (T_api_Value.c x))) b1 = some (true, .row (T_api_Value.c x)) := Heap.put_same ..
  have hle1 := Heap.le_put n1 (g := .row (T_api_Value.c x)) (m := true)
  generalize H.put b1 (.row (T_api_Value.c x)) = H1 at *
  unfold checkV at k
  refine bxV hb1 (value_depth_ok (m := 65) (hv.le hle1) hB (by omega) fun r h0 h1 h2 => ?_)
  refine ift.of (fun h => ?_) (fun h => ?_)
  · have h := of_decide_eq_true h
    rw [if_pos (by omega)] at k
    exact ⟨H, Gh.le hle1, k⟩
  have h := of_decide_eq_false h
  rw [if_neg (by omega)] at k
  refine bxV hb1 (look_ok (hv.le hle1) hB fun g hg => ?_)
  refine ift.of (fun h => ?_) (fun h => ?_)
  · have h : formV v = false := by simpa using h
    rw [if_pos h] at k
    exact ⟨H, Gh.le hle1, k⟩
  have hf : formV v = true := by simpa using h
  rw [if_neg (by rw [hf]; decide)] at k
  rw [hg hf]
  refine ift.of (fun h => ?_) (fun h => ?_)
  · have h : fitsV v = false := by simpa using h
    rw [if_pos h] at k
    exact ⟨H, Gh.le hle1, k⟩
  have hf : fitsV v = true := by simpa using h
  rw [if_neg (by rw [hf]; decide)] at k
  exact ⟨H, Gh.le hle1, k⟩
end
end Sx
end

noncomputable section
set_option linter.unusedVariables false
set_option linter.unusedSimpArgs false
set_option maxRecDepth 10000
namespace Sx
open Go Go.Proofs
theorem cmpVs_nil_l (t : List V) : cmpVs [] t = sgn 0 t.length := by
  cases t with
  | nil => simp [cmpVs, sgn]
  | cons c t => simp only [cmpVs]; unfold sgn; rw [if_pos (by simp <;> omega)]
theorem numS_isMin {s : Str} (h : numS s = true) (hm : isMin s = true) : isMin s.tail = false ∧ s.tail ≠ [] := by
  cases s with
  | nil => simp [isMin] at hm
  | cons c t =>
    have hc : c = 45 := by simpa [isMin] using hm
    subst hc
    cases t with
    | nil => simp [numS, unmin] at h
    | cons d u =>
      refine ⟨?_, by simp⟩
      simp only [numS, unmin, List.head?_cons, if_true, List.tail_cons, Bool.and_eq_true, List.all_cons] at h
      have hd := h.1.2.1
      unfold isMin
      simp only [List.tail_cons, List.head?_cons, Option.some.injEq, decide_eq_false_iff_not]
      rintro rfl
      simp [digC] at hd
theorem cmpB_no {a b : Str} (ha : isMin a = false) (hb : isMin b = false) : cmpB a b = cmpD a b := by unfold cmpB; rw [ha, hb]; rfl
theorem numS_ne {s : Str} (h : numS s = true) : s ≠ [] := fun e => by subst e; simp [numS, unmin] at h

section
variable {C : Ctx} {H : Heap}
theorem cmpV_eq (v w : V) : cmpV v w = if v.k ≠ w.k then sgn v.k w.k else if v.k = 3 then cmpB v.s w.s else if v.k = 4 then vcmpS v.s w.s else if v.k = 5 then cmpVs v.l w.l else if v.k = 6 then (if vcmpS v.s w.s ≠ 0 then vcmpS v.s w.s else cmpVs v.l w.l) else sgn v.n w.n := by
  obtain ⟨k, n, s, l⟩ := v
  obtain ⟨k', n', s', l'⟩ := w
  simp only [cmpV, V.k, V.n, V.s, V.l]
  rfl

theorem mayV_dec (v : V) : ((checkV v : Int) == 0) = mayV v := by unfold mayV; rw [Bool.eq_iff_iff]; simp
theorem mayV_form {v : V} (h : mayV v = true) : formV v = true := ((mayV_iff v).1 h).2.1

theorem sameVs_len : ∀ {l m : List V}, sameVs l m = true → l.length = m.length
  | [], [], _ => rfl
  | [], _ :: _, h => by simp [sameVs] at h
  | _ :: _, [], h => by simp [sameVs] at h
  | v :: l, w :: m, h => by
    simp only [sameVs, Bool.and_eq_true] at h
    have := sameVs_len h.2
    simp [this]
theorem SameRow_gen {l m : List V} {s t : Sl} {H : Heap} {K : Bool → Heap → Prop} (hs : VRow H s l) (ht : VRow H t m) (hl : l.length ≤ 140737488355328)
    (ih : ∀ v ∈ l, ∀ w, ∀ {x y : TV} {K : Bool → Heap → Prop}, VIs H v x → VIs H w y → w ∈ m → K (sameV v w) H → c_ref02_Same C x y K H) (k : K (sameVs l m) H) : c_ref02_SameRow C s t K H := by
  apply ad_ref02_SameRow
  unfold sh_ref02_SameRow
  rw [hs.len, ht.len]
  by_cases hlm : l.length = m.length
  rotate_left
  · refine ift_pos (by simp; omega) ?_
    cases hh : sameVs l m with
    | true => exact absurd (sameVs_len hh) hlm
    | false => rw [hh] at k; exact k
  refine ift_neg (by simp; omega) ?_
  refine ⟨fun x H' => ∃ i : Nat, x = (i : Int) ∧ i ≤ l.length ∧ H = H' ∧ sameVs l m = sameVs (l.drop i) (m.drop i), fun x _ => l.length - x.toNat, ⟨0, rfl, Nat.zero_le _, rfl, rfl⟩, ?_⟩
  rintro x _ ⟨i, rfl, hi, rfl, ha⟩
  refine ift.of (fun h => ?_) (fun h => ?_)
  · have h1 : i < l.length := by have := of_decide_eq_true h; omega
    have h2 : i < m.length := by omega
    have m1 := List.getElem_mem h1
    have m2 := List.getElem_mem h2
    rw [List.drop_eq_getElem_cons h1, List.drop_eq_getElem_cons h2] at ha
    simp only [sameVs] at ha
    refine ⟨H, Heap.le.refl _, ?_⟩
    refine hs.ld (Heap.le.refl _) rfl h1 fun y hy => ?_
    refine ht.ld (Heap.le.refl _) rfl h2 fun z hz => ?_
    refine ih _ m1 _ hy hz m2 ⟨Heap.le.refl _, ?_⟩
    refine ift.of (fun h => ?_) (fun h => ?_)
    · have h : sameV l[i] m[i] = false := by simpa using h
      rw [ha, h] at k; exact k
    · have h : sameV l[i] m[i] = true := by simpa using h
      rw [h, Bool.true_and] at ha
      rw [w_i64 (by omega) (by omega)]
      exact ⟨⟨i + 1, by omega, by omega, rfl, ha⟩, by first | omega | (dsimp only; omega)⟩
  · have hie : i = l.length := by have := of_decide_eq_false h; omega
    rw [hie, List.drop_length, hlm, List.drop_length] at ha
    rw [ha] at k; exact k

theorem sameV_eqn (v w : V) : sameV v w = (v.k == w.k && v.n == w.n && decide (v.s = w.s) && sameVs v.l w.l) := by
  obtain ⟨k, n, s, l⟩ := v
  obtain ⟨k', n', s', l'⟩ := w
  simp only [sameV, V.k, V.n, V.s, V.l]
  rfl

theorem Same_ok {v w : V} {x y : TV} {H : Heap} {K : Bool → Heap → Prop} (hv : VIs H v x) (hw : VIs H w y) (hB : VB v) (k : K (sameV v w) H) : c_ref02_Same C x y K H := by
  refine V.rec_ (P := fun v => ∀ {w x y H} {K : Bool → Heap → Prop}, VIs H v x → VIs H w y → VB v → K (sameV v w) H → c_ref02_Same C x y K H) (fun v ih => ?_) v hv hw hB k
  clear hv hw hB k
  intro w x y H K hv hw hB k
  apply c_ref02_Same.gh
  apply ad_ref02_Same
  unfold sh_ref02_Same
  intro b1 n1 b3 n3
  have hb3 : ((H.put b1 (.row (T_api_Value.c x))).put b3 (.row (T_api_Value.c y))) b3 = some (true, .row (T_api_Value.c y)) := Heap.put_same ..
  have hne : b1 ≠ b3 := fun e => by rw [e, Heap.put_same] at n3; cases n3
  have hb1 : ((H.put b1 (.row (T_api_Value.c x))).put b3 (.row (T_api_Value.c y))) b1 = some (true, .row (T_api_Value.c x)) := by rw [Heap.put_ne _ _ _ hne, Heap.put_same]
  have hle := (Heap.le_put n1 (g := .row (T_api_Value.c x)) (m := true)).trans (Heap.le_put n3 (g := .row (T_api_Value.c y)) (m := true))
  generalize (H.put b1 (.row (T_api_Value.c x))).put b3 (.row (T_api_Value.c y)) = H1 at *
  have k' : ∃ H0, Gh C H1 H0 ∧ K (sameV v w) H0 := ⟨H, Gh.le hle, k⟩
  rw [sameV_eqn] at k'
  refine bxK hb1 (bxK hb3 ?_)
  rw [hv.kind, hw.kind]
  refine ⟨fun b H' => H1 = H' ∧ b = (v.k == w.k && v.n == w.n), ?_, ?_⟩
  · refine ift.of (fun h => ?_) (fun h => ⟨rfl, by rw [h]; rfl⟩)
    refine bxN hb1 (bxN hb3 ⟨rfl, ?_⟩)
    rw [h, hv.num, hw.num]; rfl
  rintro _ _ ⟨rfl, rfl⟩
  refine ⟨fun b H' => H1 = H' ∧ b = (v.k == w.k && v.n == w.n && decide (v.s = w.s)), ?_, ?_⟩
  · refine ift.of (fun h => ?_) (fun h => ⟨rfl, by rw [h]; rfl⟩)
    refine bxS hb1 (bxS hb3 ⟨rfl, ?_⟩)
    rw [h, hv.txt, hw.txt, Bool.true_and, Bool.eq_iff_iff]; simp
  rintro _ _ ⟨rfl, rfl⟩
  refine ⟨fun b H' => H1 = H' ∧ b = (v.k == w.k && v.n == w.n && decide (v.s = w.s) && sameVs v.l w.l), ?_, ?_⟩
  · refine ift.of (fun h => ?_) (fun h => ⟨rfl, by rw [h]; rfl⟩)
    refine bxL hb1 (bxL hb3 ?_)
    refine SameRow_gen (hv.row.le hle) (hw.row.le hle) hB.l (fun p hp q {x' y'} {K'} hx hy _ kk => ih p hp hx hy (hB.ls.mem hp) kk) ⟨rfl, ?_⟩
    rw [h]; rfl
  rintro _ _ ⟨rfl, rfl⟩
  exact k'
end
end Sx
end

noncomputable section
set_option linter.unusedVariables false
set_option linter.unusedSimpArgs false
namespace Sx
open Go
section
variable {H : Type} {enc : TypeId × Value → H} {P : Program} {W : World}
/-- the type of values -/
structure ValT (P : Program) (t tl : TypeId) : Prop where
  st : ∃ fs : Array Field, P.underlying t = some (.struct fs) ∧ fs.size = 4 ∧ (∃ f tk, fs[0]? = some f ∧ f.type = tk ∧ f.offset = 0 ∧ P.underlying tk = some (.int .u8) ∧ P.cellsOf tk = 1) ∧ (∃ f tk, fs[1]? = some f ∧ f.type = tk ∧ f.offset = 1 ∧ P.underlying tk = some (.int .i64) ∧ P.cellsOf tk = 1) ∧ (∃ f tk, fs[2]? = some f ∧ f.type = tk ∧ f.offset = 2 ∧ P.underlying tk = some .string ∧ P.cellsOf tk = 1) ∧ (∃ f, fs[3]? = some f ∧ f.type = tl ∧ f.offset = 3 ∧ P.cellsOf tl = 1)
  cells : P.cellsOf t = 4
  sl : P.underlying tl = some (.slice t)

end
end Sx
end

noncomputable section
set_option linter.unusedVariables false
set_option linter.unusedSimpArgs false
namespace Sx
open Go
section
variable {H : Type} {enc : TypeId × Value → H} {P : Program} {W : World}
theorem rows_genw {t tl : TypeId} {css : List (List Value)} {s : Sl} (hl : css.length = s.len) (hr : rdsl (heapOf W) s css.flatten)
    (ih : ∀ c ∈ css, ∃ (v : V) (x : TV), c = T_api_Value.c x ∧ VIs (heapOf W) v x ∧ VB v) : ∃ l : List V, VRow (heapOf W) s l ∧ VBs l := by
  have key : ∀ (css : List (List Value)), (∀ c ∈ css, ∃ (v : V) (x : TV), c = T_api_Value.c x ∧ VIs (heapOf W) v x ∧ VB v) →
      ∃ (l : List V) (xs : List TV), css.flatten = xs.flatMap T_api_Value.c ∧ css.length = xs.length ∧ VsAre (heapOf W) l xs ∧ VBs l := by
    intro css
    induction css with
    | nil => intro _; exact ⟨[], [], rfl, rfl, trivial, trivial⟩
    | cons c css ihc =>
      intro hh
      obtain ⟨v, x, h1, h2, h3⟩ := hh c (List.mem_cons_self ..)
      obtain ⟨l, xs, g1, g2, g3, g4⟩ := ihc fun c' hc => hh c' (List.mem_cons_of_mem _ hc)
      exact ⟨v :: l, x :: xs, by rw [List.flatten_cons, List.flatMap_cons, g1, h1], by simp [g2], ⟨h2, g3⟩, ⟨h3, g4⟩⟩
  obtain ⟨l, xs, g1, g2, g3, g4⟩ := key css ih
  exact ⟨l, ⟨xs, by rw [← g1]; exact hr, by omega, g3⟩, g4⟩

theorem valw_of {t tl : TypeId} (hT : ValT P t tl) (hb : 1 ≤ P.bytesOf t) : ∀ (n : Nat) {cs : List Value}, TrW P W n t cs → ∃ (v : V) (y : TV), cs = T_api_Value.c y ∧ VIs (heapOf W) v y ∧ VB v := by
  intro n
  induction n using Nat.strongRecOn with
  | _ n ih =>
  intro cs h
  obtain ⟨fs, hu, hfs, ⟨f0, t0, a0, b0, c0, d0, e0⟩, ⟨f1, t1, a1, b1, c1, d1, e1⟩, ⟨f2, t2, a2, b2, c2, d2, e2⟩, ⟨f3, a3, b3, c3, e3⟩⟩ := hT.st
  obtain ⟨hl, m, rfl, hf⟩ := h.struct hu
  rw [hT.cells] at hl
  match cs, hl with
  | [q0, q1, q2, q3], _ =>
  have g0 := hf 0 f0 a0
  have g1 := hf 1 f1 a1
  have g2 := hf 2 f2 a2
  have g3 := hf 3 f3 a3
  rw [b0, c0, e0] at g0
  rw [b1, c1, e1] at g1
  rw [b2, c2, e2] at g2
  rw [b3, c3, e3] at g3
  simp at g0 g1 g2 g3
  obtain ⟨n0, k0, k2⟩ := g0.int d0
  obtain ⟨n1, l0, l2⟩ := g1.int d1
  obtain ⟨s2, m0, m1, m2⟩ := g2.str d2
  obtain ⟨s, css, m', hm', p0, p1, p2, p3, p4, p5, p6⟩ := g3.slice hT.sl hT.cells (by omega)
  have hmx : reachBytes = 140737488351232 := rfl
  rw [hmx] at p3 m2
  obtain ⟨l, r1, r2⟩ := rows_genw (t := t) (tl := tl) p4 p5 fun c hc => ih m' (by omega) (p6 c hc).2
  have hll := r1.len
  have hsl : s.len ≤ 140737488351232 := Nat.le_trans (Nat.le_mul_of_pos_right _ (by omega)) p3
  refine ⟨.mk n0 n1 s2 l, ⟨n0, n1, s2, s⟩, ?_, VIs_iff.2 ⟨rfl, rfl, rfl, r1⟩, ⟨?_, ?_, by omega, by omega, r2⟩⟩
  · injection k0 with k0
    injection l0 with l0
    injection m0 with m0
    injection p0 with p0
    subst k0; subst l0; subst m0; subst p0
    simp [T_api_Value.c]
  · simpa [Lit.wf, IntKind.min, IntKind.max, IntKind.signed, IntKind.bits] using k2
  · simpa [Lit.wf, IntKind.min, IntKind.max, IntKind.signed, IntKind.bits] using l2

theorem argw_val {t tl : TypeId} (hT : ValT P t tl) (hb : 1 ≤ P.bytesOf t) {base : Nat} {v : Value} {d : DataW H} {p : List MemPlace} (hv : Value.okWide P W .any base t v) (h : DataW.Trod enc P W 0 (fun _ => true) true t v d p) (hw : ∀ w ∈ d.weights P t, w ≤ reachBytes) :
    ∃ (u : V) (y : TV), v = .agg (T_api_Value.c y).toArray ∧ VIs (heapOf W) u y ∧ VB u := by
  obtain ⟨fs, hu, _⟩ := hT.st
  obtain ⟨cs, rfl, hl⟩ := WideShapes.okWide_struct hu hv
  obtain ⟨n, hn⟩ := TrW.of h hw
  obtain ⟨u, y, h1, h2, h3⟩ := valw_of hT hb n hn
  refine ⟨u, y, ?_, h2, h3⟩
  simp only [Value.cells] at h1
  rw [← h1]
end
end Sx
end

noncomputable section
set_option linter.unusedVariables false
set_option linter.unusedSimpArgs false
namespace Sx
open Go Go.Proofs
/-- a list of rows -/
def VRows (H : Heap) (s : Sl) (ls : List (List V)) : Prop := ∃ xs : List Sl, rdsl H s (xs.map slv) ∧ s.len = xs.length ∧ xs.length = ls.length ∧ ∀ (i : Nat) (x : Sl) (l : List V), xs[i]? = some x → ls[i]? = some l → VRow H x l
theorem VRows.le {A B : Heap} {s : Sl} {ls : List (List V)} (h : VRows A s ls) (hle : A.le B) : VRows B s ls := by
  obtain ⟨xs, h1, h2, h3, h4⟩ := h
  exact ⟨xs, rdsl_le hle h1, h2, h3, fun i x l hx hl => (h4 i x l hx hl).le hle⟩
theorem VRows.len {H : Heap} {s : Sl} {ls : List (List V)} (h : VRows H s ls) : s.len = ls.length := by
  obtain ⟨xs, h1, h2, h3, h4⟩ := h; omega
theorem VRows.ld {A H : Heap} {s : Sl} {ls : List (List V)} {i : Nat} {x : Int} {K : Sl → Prop} (h : VRows A s ls) (hle : A.le H) (hx : x = i) (hi : i < ls.length) (k : ∀ t, VRow A t ls[i] → K t) : ixa s x fun p => ldL H (p.1, p.2 + x.toNat * 1) K := by
  obtain ⟨xs, h1, h2, h3, h4⟩ := h
  subst hx
  rw [Int.toNat_natCast, Nat.mul_one]
  have hi2 : i < xs.length := by omega
  refine ixa_of h1 (by omega) (by omega) (fun e => by have := congrArg List.length e; simp at this; rw [this] at hi2; simp at hi2) fun p hp hr => ?_
  refine ⟨xs[i], rd_le hle (rds_get hr i _ (by simp [hi2])), k _ (h4 i _ _ (List.getElem?_eq_getElem hi2) (List.getElem?_eq_getElem hi))⟩
section
variable {H : Type} {enc : TypeId × Value → H} {P : Program} {W : World}
end
end Sx
end

