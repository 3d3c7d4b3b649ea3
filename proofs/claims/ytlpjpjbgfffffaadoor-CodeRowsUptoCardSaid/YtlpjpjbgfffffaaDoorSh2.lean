/-
  Made by program (wip/gen/gen.py): the shallow forms of the functions, and that each implies its contract.
-/
import Derived.Test.YtlpjpjbgfffffaaDoorSh1
set_option linter.unusedVariables false
set_option maxRecDepth 100000
namespace Sx
open Go Go.Proofs
def sh_ref03_Num (C : Ctx) (p_b : Sl) (p_n : Int) (K : Sl → Heap → Prop) (H : Heap) : Prop :=
  ift (decide ((p_n : Int) < 0))
 (c_ref03_Num C Sl.nil (w .i64 (0 - (w .i64 (p_n + 1)))) (fun r2 H3 =>
 c_ref03_turned C r2 (fun r4 H5 =>
 c_ref03_with C p_b r4 (fun r6 H7 =>
 K r6 H7) H5) H3) H)
 (c_ref03_digits C (w .u64 p_n) (fun r8 H9 =>
 nw ([.int .u8 (w .u8 (w .i64 (128 + (Sl.len r8 : Int))))]) (fun b10 H11 =>
 c_ref03_with C (Sl.of (some (b10, 0)) 1 1) r8 (fun r12 H13 =>
 c_ref03_with C p_b r12 (fun r14 H15 =>
 K r14 H15) H13) H11) H9) H)

theorem ad_ref03_Num (C : Ctx) (p_b : Sl) (p_n : Int) (K : Sl → Heap → Prop) (H : Heap) (h : sh_ref03_Num C p_b p_n K H) : c_ref03_Num C p_b p_n K H := by
  refine Spec.enter Tryd.func14 rfl Tryd.ntmps14 rfl ?_
  refine GC.sub [(0, slv p_b), (1, .int .i64 p_n)] ⟨rfl, rfl, trivial⟩ ?_
  refine GC.seq ?_
  refine GC.region ?_
  refine GL.val trivial rfl (OV.assign (v := slv Sl.nil) rfl) ?_
  refine GL.nil ?_
  refine GC.seq ?_
  refine GC.seq ?_
  refine GC.region ?_
  refine GL.val trivial rfl (OV.move (v := .int .i64 p_n) rfl) ?_
  refine GL.val trivial rfl (OV.ibin (v := .bool (decide ((p_n : Int) < 0))) rfl rfl rfl) ?_
  refine GL.nil ?_
  refine GC.cond (b := decide ((p_n : Int) < 0)) rfl (fun hc1 => ?_) (fun hc1 => ?_)
  · replace h := And.left h hc1
    refine GC.seq ?_
    refine GC.region ?_
    refine GL.val trivial rfl (OV.move (v := slv p_b) rfl) ?_
    refine GL.val trivial rfl (OV.move (v := .int .i64 p_n) rfl) ?_
    refine GL.val trivial rfl (OV.ibin (v := .int .i64 (w .i64 (p_n + 1))) rfl rfl rfl) ?_
    refine GL.val trivial rfl (OV.iun (v := .int .i64 (w .i64 (0 - (w .i64 (p_n + 1))))) rfl rfl) ?_
    refine GL.call h trivial rfl ok_ref03_Num (vs := [slv Sl.nil, .int .i64 (w .i64 (0 - (w .i64 (p_n + 1))))]) rfl ?_
    rintro _ H3 ⟨r2, rfl, h⟩
    refine GL.call h trivial rfl ok_ref03_turned (vs := [slv r2]) rfl ?_
    rintro _ H5 ⟨r4, rfl, h⟩
    refine GL.call h trivial rfl ok_ref03_with (vs := [slv p_b, slv r4]) rfl ?_
    rintro _ H7 ⟨r6, rfl, h⟩
    refine GL.val trivial rfl (OV.assign (v := slv r6) rfl) ?_
    refine GL.nil ?_
    exact GC.ret (fun _ _ hf hs => post_tmp1 rfl rfl hf hs ⟨r6, rfl, h⟩)
  · replace h := And.right h hc1
    refine GC.skip ?_
    refine GC.seq ?_
    refine GC.region ?_
    refine GL.val trivial rfl (OV.move (v := .int .i64 p_n) rfl) ?_
    refine GL.val trivial rfl (OV.convInt rfl rfl rfl) ?_
    refine GL.call h trivial rfl ok_ref03_digits (vs := [.int .u64 (w .u64 p_n)]) rfl ?_
    rintro _ H9 ⟨r8, rfl, h⟩
    refine GL.val trivial rfl (OV.assign (v := slv r8) rfl) ?_
    refine GL.nil ?_
    refine GC.seq ?_
    refine GC.region ?_
    refine GL.val trivial rfl (OV.move (v := slv p_b) rfl) ?_
    refine GL.val trivial rfl (OV.move (v := slv r8) rfl) ?_
    refine GL.val trivial rfl (OV.lenSl (s := r8) rfl rfl) ?_
    refine GL.val trivial rfl (OV.ibin (v := .int .i64 (w .i64 (128 + (Sl.len r8 : Int)))) rfl rfl rfl) ?_
    refine GL.val trivial rfl (OV.convInt rfl rfl rfl) ?_
    refine GL.buildSlice (cs := [.int .u8 (w .u8 (w .i64 (128 + (Sl.len r8 : Int))))]) h trivial rfl (vs := [(0, .int .u8 (w .u8 (w .i64 (128 + (Sl.len r8 : Int)))))]) rfl ⟨5, fun _ => by kernel_rfl⟩ ?_
    intro b10 H11 h
    refine GL.val trivial rfl (OV.move (v := slv r8) rfl) ?_
    refine GL.call h trivial rfl ok_ref03_with (vs := [slv (Sl.of (some (b10, 0)) 1 1), slv r8]) rfl ?_
    rintro _ H13 ⟨r12, rfl, h⟩
    refine GL.call h trivial rfl ok_ref03_with (vs := [slv p_b, slv r12]) rfl ?_
    rintro _ H15 ⟨r14, rfl, h⟩
    refine GL.val trivial rfl (OV.assign (v := slv r14) rfl) ?_
    refine GL.nil ?_
    exact GC.ret (fun _ _ hf hs => post_tmp1 rfl rfl hf hs ⟨r14, rfl, h⟩)

def sh_code_Count (C : Ctx) (p_b : Sl) (p_n : Int) (K : Sl → Heap → Prop) (H : Heap) : Prop :=
  c_code_behind C p_b (fun r1 H2 =>
 jn (α := Unit) (fun x4 H5 =>
 nck r1 fun p10 =>
 ldL H5 (p10.1, p10.2 + 0) fun x12 =>
 K x12 H5)
 (fun J3 => ift ((decide ((p_n : Int) ≥ 0)) && (decide ((p_n : Int) ≤ 2147483647)))
 (c_code_pen_number C r1 0 (w .u64 p_n) (fun H9 =>
 J3 () H9) H2)
 (J3 () H2))) H

theorem ad_code_Count (C : Ctx) (p_b : Sl) (p_n : Int) (K : Sl → Heap → Prop) (H : Heap) (h : sh_code_Count C p_b p_n K H) : c_code_Count C p_b p_n K H := by
  refine Spec.enter Tryd.func15 rfl Tryd.ntmps15 rfl ?_
  refine GC.sub [(0, slv p_b), (1, .int .i64 p_n)] ⟨rfl, rfl, trivial⟩ ?_
  refine GC.seq ?_
  refine GC.region ?_
  refine GL.val trivial rfl (OV.assign (v := slv Sl.nil) rfl) ?_
  refine GL.nil ?_
  refine GC.seq ?_
  refine GC.region ?_
  refine GL.val trivial rfl (OV.move (v := slv p_b) rfl) ?_
  refine GL.call h trivial rfl ok_code_behind (vs := [slv p_b]) rfl ?_
  rintro _ H2 ⟨r1, rfl, h⟩
  refine GL.val trivial rfl (OV.assign (v := pv r1) rfl) ?_
  refine GL.nil ?_
  obtain ⟨J3, h, hR6⟩ := h
  refine GC.join (α := Unit) J3 (fun _ => [(5, pv r1)]) ?_ ?_
  · skip
    refine GC.seq ?_
    refine GC.region ?_
    refine GL.val trivial rfl (OV.move (v := .int .i64 p_n) rfl) ?_
    refine GL.val trivial rfl (OV.ibin (v := .bool (decide ((p_n : Int) ≥ 0))) rfl rfl rfl) ?_
    refine GL.val trivial rfl (OV.move (v := .bool (decide ((p_n : Int) ≥ 0))) rfl) ?_
    refine GL.cut0 3 [(13, .bool ((decide ((p_n : Int) ≥ 0)) && (decide ((p_n : Int) ≤ 2147483647)))), (1, .int .i64 p_n), (5, pv r1)] ?_ ?_
    · rcases Bool.eq_false_or_eq_true (decide ((p_n : Int) ≥ 0)) with hc7 | hc7
      · skip
        refine GL.val ⟨_, _, rfl, rfl, hc7⟩ rfl (OV.move (v := .int .i64 p_n) rfl) ?_
        refine GL.val ⟨_, _, rfl, rfl, hc7⟩ rfl (OV.ibin (v := .bool (decide ((p_n : Int) ≤ 2147483647))) rfl rfl rfl) ?_
        refine GL.val trivial rfl (OV.pickT (b := decide ((p_n : Int) ≥ 0)) (v := .bool (decide ((p_n : Int) ≤ 2147483647))) rfl hc7 rfl) ?_
        exact GL.jump0 (fun _ _ h => h) () rfl ⟨(by rw [hc7]; rfl), rfl, rfl, trivial⟩
      · skip
        refine GL.skip ⟨_, rfl, .inl ⟨_, rfl, hc7⟩⟩ rfl ?_
        refine GL.skip ⟨_, rfl, .inl ⟨_, rfl, hc7⟩⟩ rfl ?_
        refine GL.val trivial rfl (OV.pickF (b := decide ((p_n : Int) ≥ 0)) (v := .bool false) rfl hc7 rfl) ?_
        exact GL.jump0 (fun _ _ h => h) () rfl ⟨(by rw [hc7]; rfl), rfl, rfl, trivial⟩
    refine GL.nil ?_
    refine GC.cond (b := (decide ((p_n : Int) ≥ 0)) && (decide ((p_n : Int) ≤ 2147483647))) rfl (fun hc8 => ?_) (fun hc8 => ?_)
    · replace h := And.left h hc8
      refine GC.region ?_
      refine GL.val trivial rfl (OV.move (v := pv r1) rfl) ?_
      refine GL.val trivial rfl (OV.move (v := .int .i64 p_n) rfl) ?_
      refine GL.val trivial rfl (OV.convInt rfl rfl rfl) ?_
      refine GL.call h trivial rfl ok_code_pen_number (vs := [pv r1, .int .u8 0, .int .u64 (w .u64 p_n)]) rfl ?_
      rintro _ H9 ⟨rfl, h⟩
      exact GL.jump (fun _ _ h => h) () h ⟨rfl, trivial⟩
    · replace h := And.right h hc8
      exact GC.jump (fun _ _ h => h) () h ⟨rfl, trivial⟩
  · intro x4 H5 h
    replace h := hR6 x4 H5 h
    refine GC.seq ?_
    refine GC.region ?_
    refine GL.val trivial rfl (OV.move (v := pv r1) rfl) ?_
    obtain ⟨p10, hp11, h⟩ := h
    refine GL.val trivial rfl (OV.nilCheck (q := r1) rfl hp11) ?_
    refine GL.val trivial rfl (OV.fieldAddr (p := p10) rfl rfl) ?_
    obtain ⟨x12, hr13, h⟩ := h
    refine GL.val trivial rfl (OV.load (p := (p10.1, p10.2 + 0)) rfl rfl hr13) ?_
    refine GL.val trivial rfl (OV.assign (v := slv x12) rfl) ?_
    refine GL.nil ?_
    exact GC.ret (fun _ _ hf hs => post_tmp1 rfl rfl hf hs ⟨x12, rfl, h⟩)

def sh_ref03_Count (C : Ctx) (p_b : Sl) (p_n : Int) (K : Sl → Heap → Prop) (H : Heap) : Prop :=
  ift ((decide ((p_n : Int) < 0)) || (decide ((p_n : Int) > 2147483647)))
 (c_ref03_with C p_b Sl.nil (fun r3 H4 =>
 K r3 H4) H)
 (c_ref03_digits C (w .u64 p_n) (fun r5 H6 =>
 nw ([.int .u8 (w .u8 (Sl.len r5 : Int))]) (fun b7 H8 =>
 c_ref03_with C (Sl.of (some (b7, 0)) 1 1) r5 (fun r9 H10 =>
 c_ref03_with C p_b r9 (fun r11 H12 =>
 K r11 H12) H10) H8) H6) H)

theorem ad_ref03_Count (C : Ctx) (p_b : Sl) (p_n : Int) (K : Sl → Heap → Prop) (H : Heap) (h : sh_ref03_Count C p_b p_n K H) : c_ref03_Count C p_b p_n K H := by
  refine Spec.enter Tryd.func16 rfl Tryd.ntmps16 rfl ?_
  refine GC.sub [(0, slv p_b), (1, .int .i64 p_n)] ⟨rfl, rfl, trivial⟩ ?_
  refine GC.seq ?_
  refine GC.region ?_
  refine GL.val trivial rfl (OV.assign (v := slv Sl.nil) rfl) ?_
  refine GL.nil ?_
  refine GC.seq ?_
  refine GC.seq ?_
  refine GC.region ?_
  refine GL.val trivial rfl (OV.move (v := .int .i64 p_n) rfl) ?_
  refine GL.val trivial rfl (OV.ibin (v := .bool (decide ((p_n : Int) < 0))) rfl rfl rfl) ?_
  refine GL.val trivial rfl (OV.move (v := .bool (decide ((p_n : Int) < 0))) rfl) ?_
  refine GL.cut0 3 [(11, .bool ((decide ((p_n : Int) < 0)) || (decide ((p_n : Int) > 2147483647)))), (0, slv p_b), (1, .int .i64 p_n)] ?_ ?_
  · rcases Bool.eq_false_or_eq_true (decide ((p_n : Int) < 0)) with hc1 | hc1
    · skip
      refine GL.skip ⟨_, rfl, .inl ⟨_, rfl, hc1⟩⟩ rfl ?_
      refine GL.skip ⟨_, rfl, .inl ⟨_, rfl, hc1⟩⟩ rfl ?_
      refine GL.val trivial rfl (OV.pickT (b := decide ((p_n : Int) < 0)) (v := .bool true) rfl hc1 rfl) ?_
      exact GL.jump0 (fun _ _ h => h) () rfl ⟨(by rw [hc1]; rfl), rfl, rfl, trivial⟩
    · skip
      refine GL.val ⟨_, _, rfl, rfl, hc1⟩ rfl (OV.move (v := .int .i64 p_n) rfl) ?_
      refine GL.val ⟨_, _, rfl, rfl, hc1⟩ rfl (OV.ibin (v := .bool (decide ((p_n : Int) > 2147483647))) rfl rfl rfl) ?_
      refine GL.val trivial rfl (OV.pickF (b := decide ((p_n : Int) < 0)) (v := .bool (decide ((p_n : Int) > 2147483647))) rfl hc1 rfl) ?_
      exact GL.jump0 (fun _ _ h => h) () rfl ⟨(by rw [hc1]; rfl), rfl, rfl, trivial⟩
  refine GL.nil ?_
  refine GC.cond (b := (decide ((p_n : Int) < 0)) || (decide ((p_n : Int) > 2147483647))) rfl (fun hc2 => ?_) (fun hc2 => ?_)
  · replace h := And.left h hc2
    refine GC.seq ?_
    refine GC.region ?_
    refine GL.val trivial rfl (OV.move (v := slv p_b) rfl) ?_
    refine GL.call h trivial rfl ok_ref03_with (vs := [slv p_b, slv Sl.nil]) rfl ?_
    rintro _ H4 ⟨r3, rfl, h⟩
    refine GL.val trivial rfl (OV.assign (v := slv r3) rfl) ?_
    refine GL.nil ?_
    exact GC.ret (fun _ _ hf hs => post_tmp1 rfl rfl hf hs ⟨r3, rfl, h⟩)
  · replace h := And.right h hc2
    refine GC.skip ?_
    refine GC.seq ?_
    refine GC.region ?_
    refine GL.val trivial rfl (OV.move (v := .int .i64 p_n) rfl) ?_
    refine GL.val trivial rfl (OV.convInt rfl rfl rfl) ?_
    refine GL.call h trivial rfl ok_ref03_digits (vs := [.int .u64 (w .u64 p_n)]) rfl ?_
    rintro _ H6 ⟨r5, rfl, h⟩
    refine GL.val trivial rfl (OV.assign (v := slv r5) rfl) ?_
    refine GL.nil ?_
    refine GC.seq ?_
    refine GC.region ?_
    refine GL.val trivial rfl (OV.move (v := slv p_b) rfl) ?_
    refine GL.val trivial rfl (OV.move (v := slv r5) rfl) ?_
    refine GL.val trivial rfl (OV.lenSl (s := r5) rfl rfl) ?_
    refine GL.val trivial rfl (OV.convInt rfl rfl rfl) ?_
    refine GL.buildSlice (cs := [.int .u8 (w .u8 (Sl.len r5 : Int))]) h trivial rfl (vs := [(0, .int .u8 (w .u8 (Sl.len r5 : Int)))]) rfl ⟨5, fun _ => by kernel_rfl⟩ ?_
    intro b7 H8 h
    refine GL.val trivial rfl (OV.move (v := slv r5) rfl) ?_
    refine GL.call h trivial rfl ok_ref03_with (vs := [slv (Sl.of (some (b7, 0)) 1 1), slv r5]) rfl ?_
    rintro _ H10 ⟨r9, rfl, h⟩
    refine GL.call h trivial rfl ok_ref03_with (vs := [slv p_b, slv r9]) rfl ?_
    rintro _ H12 ⟨r11, rfl, h⟩
    refine GL.val trivial rfl (OV.assign (v := slv r11) rfl) ?_
    refine GL.nil ?_
    exact GC.ret (fun _ _ hf hs => post_tmp1 rfl rfl hf hs ⟨r11, rfl, h⟩)

def sh_code_Str (C : Ctx) (p_b : Sl) (p_s : Str) (K : Sl → Heap → Prop) (H : Heap) : Prop :=
  c_code_behind C p_b (fun r1 H2 =>
 c_code_pen_text C r1 p_s (fun H3 =>
 nck r1 fun p4 =>
 ldL H3 (p4.1, p4.2 + 0) fun x6 =>
 K x6 H3) H2) H

theorem ad_code_Str (C : Ctx) (p_b : Sl) (p_s : Str) (K : Sl → Heap → Prop) (H : Heap) (h : sh_code_Str C p_b p_s K H) : c_code_Str C p_b p_s K H := by
  refine Spec.enter Tryd.func17 rfl Tryd.ntmps17 rfl ?_
  refine GC.sub [(0, slv p_b), (1, sv p_s)] ⟨rfl, rfl, trivial⟩ ?_
  refine GC.seq ?_
  refine GC.region ?_
  refine GL.val trivial rfl (OV.assign (v := slv Sl.nil) rfl) ?_
  refine GL.nil ?_
  refine GC.seq ?_
  refine GC.region ?_
  refine GL.val trivial rfl (OV.move (v := slv p_b) rfl) ?_
  refine GL.call h trivial rfl ok_code_behind (vs := [slv p_b]) rfl ?_
  rintro _ H2 ⟨r1, rfl, h⟩
  refine GL.val trivial rfl (OV.assign (v := pv r1) rfl) ?_
  refine GL.nil ?_
  refine GC.seq ?_
  refine GC.region ?_
  refine GL.val trivial rfl (OV.move (v := pv r1) rfl) ?_
  refine GL.val trivial rfl (OV.move (v := sv p_s) rfl) ?_
  refine GL.call h trivial rfl ok_code_pen_text (vs := [pv r1, sv p_s]) rfl ?_
  rintro _ H3 ⟨rfl, h⟩
  refine GL.nil ?_
  refine GC.seq ?_
  refine GC.region ?_
  refine GL.val trivial rfl (OV.move (v := pv r1) rfl) ?_
  obtain ⟨p4, hp5, h⟩ := h
  refine GL.val trivial rfl (OV.nilCheck (q := r1) rfl hp5) ?_
  refine GL.val trivial rfl (OV.fieldAddr (p := p4) rfl rfl) ?_
  obtain ⟨x6, hr7, h⟩ := h
  refine GL.val trivial rfl (OV.load (p := (p4.1, p4.2 + 0)) rfl rfl hr7) ?_
  refine GL.val trivial rfl (OV.assign (v := slv x6) rfl) ?_
  refine GL.nil ?_
  exact GC.ret (fun _ _ hf hs => post_tmp1 rfl rfl hf hs ⟨x6, rfl, h⟩)

def sh_ref03_Str (C : Ctx) (p_b : Sl) (p_s : Str) (K : Sl → Heap → Prop) (H : Heap) : Prop :=
  c_ref03_with C p_b Sl.nil (fun r1 H2 =>
 lp (α := Sl × Int) (r1, 0) H2 (fun x3 J4 H5 =>
 ift (decide ((x3.2 : Int) < (List.length p_s : Int)))
 (jn (α := Sl) (fun x8 H9 =>
 J4 (x8, (w .i64 (x3.2 + 1))) H9)
 (fun J7 => ixs p_s x3.2 fun c11 =>
 apd ([.int .u8 0]) 1 x3.1 ([.int .u8 (c11.toNat : Int)]) 1 (fun r14 H15 =>
 ixs p_s x3.2 fun c16 =>
 ift (((c16.toNat : Int) : Int) == 0)
 (apd ([.int .u8 0]) 1 r14 ([.int .u8 255]) 1 (fun r20 H21 =>
 J7 r20 H21) H15)
 (J7 r14 H15)) H5))
 (apd ([.int .u8 0]) 1 x3.1 ([.int .u8 0, .int .u8 0]) 2 (fun r22 H23 =>
 K r22 H23) H5))) H

theorem ad_ref03_Str (C : Ctx) (p_b : Sl) (p_s : Str) (K : Sl → Heap → Prop) (H : Heap) (h : sh_ref03_Str C p_b p_s K H) : c_ref03_Str C p_b p_s K H := by
  refine Spec.enter Tryd.func18 rfl Tryd.ntmps18 rfl ?_
  refine GC.sub [(0, slv p_b), (1, sv p_s)] ⟨rfl, rfl, trivial⟩ ?_
  refine GC.seq ?_
  refine GC.region ?_
  refine GL.val trivial rfl (OV.assign (v := slv Sl.nil) rfl) ?_
  refine GL.nil ?_
  refine GC.seq ?_
  refine GC.region ?_
  refine GL.val trivial rfl (OV.move (v := slv p_b) rfl) ?_
  refine GL.call h trivial rfl ok_ref03_with (vs := [slv p_b, slv Sl.nil]) rfl ?_
  rintro _ H2 ⟨r1, rfl, h⟩
  refine GL.val trivial rfl (OV.assign (v := slv r1) rfl) ?_
  refine GL.nil ?_
  refine GC.seq ?_
  refine GC.seq ?_
  refine GC.region ?_
  refine GL.val trivial rfl (OV.assign (v := .int .i64 0) rfl) ?_
  refine GL.nil ?_
  refine GC.block ?_
  refine GC.loop (α := Sl × Int) h (fun x3 => [(5, slv x3.1), (6, .int .i64 x3.2), (1, sv p_s)]) ⟨rfl, rfl, rfl, trivial⟩ ?_
  intro x3 H5 J4 h
  refine GC.seq ?_
  refine GC.seq ?_
  refine GC.region ?_
  refine GL.val trivial rfl (OV.move (v := .int .i64 x3.2) rfl) ?_
  refine GL.val trivial rfl (OV.move (v := sv p_s) rfl) ?_
  refine GL.val trivial rfl (OV.lenStr (s := p_s) rfl rfl) ?_
  refine GL.val trivial rfl (OV.ibin (v := .bool (decide ((x3.2 : Int) < (List.length p_s : Int)))) rfl rfl rfl) ?_
  refine GL.nil ?_
  refine GC.cond (b := decide ((x3.2 : Int) < (List.length p_s : Int))) rfl (fun hc6 => ?_) (fun hc6 => ?_)
  · replace h := And.left h hc6
    refine GC.skip ?_
    obtain ⟨J7, h, hR10⟩ := h
    refine GC.join (α := Sl) J7 (fun x8 => [(5, slv x8), (1, sv p_s), (6, .int .i64 x3.2)]) ?_ ?_
    · skip
      refine GC.block ?_
      refine GC.seq ?_
      refine GC.region ?_
      refine GL.val trivial rfl (OV.move (v := slv x3.1) rfl) ?_
      refine GL.val trivial rfl (OV.move (v := sv p_s) rfl) ?_
      refine GL.val trivial rfl (OV.move (v := .int .i64 x3.2) rfl) ?_
      obtain ⟨c11, ha12, hb13, h⟩ := h
      refine GL.val trivial rfl (OV.indexStr (s := p_s) rfl rfl rfl ha12 hb13) ?_
      refine GL.appendLit (s := x3.1) (ys := [.int .u8 (c11.toNat : Int)]) (zc := [.int .u8 0]) (bytes := 1) h trivial rfl (fun _ => trivial) rfl (fun _ => rfl) (fun _ => rfl) (vs := [(0, .int .u8 (c11.toNat : Int))]) rfl ⟨5, fun _ => by kernel_rfl⟩ ⟨⟨_, _, _, rfl, rfl, rfl, rfl, rfl, rfl⟩⟩ rfl rfl ?_
      intro _ r14 H15 h
      refine GL.val trivial rfl (OV.assign (v := slv r14) rfl) ?_
      refine GL.nil ?_
      refine GC.seq ?_
      refine GC.region ?_
      refine GL.val trivial rfl (OV.move (v := sv p_s) rfl) ?_
      refine GL.val trivial rfl (OV.move (v := .int .i64 x3.2) rfl) ?_
      obtain ⟨c16, ha17, hb18, h⟩ := h
      refine GL.val trivial rfl (OV.indexStr (s := p_s) rfl rfl rfl ha17 hb18) ?_
      refine GL.val trivial rfl (OV.ibin (v := .bool (((c16.toNat : Int) : Int) == 0)) rfl rfl rfl) ?_
      refine GL.nil ?_
      refine GC.cond (b := ((c16.toNat : Int) : Int) == 0) rfl (fun hc19 => ?_) (fun hc19 => ?_)
      · replace h := And.left h hc19
        refine GC.region ?_
        refine GL.val trivial rfl (OV.move (v := slv r14) rfl) ?_
        refine GL.appendLit (s := r14) (ys := [.int .u8 255]) (zc := [.int .u8 0]) (bytes := 1) h trivial rfl (fun _ => trivial) rfl (fun _ => rfl) (fun _ => rfl) (vs := [(0, .int .u8 255)]) rfl ⟨5, fun _ => by kernel_rfl⟩ ⟨⟨_, _, _, rfl, rfl, rfl, rfl, rfl, rfl⟩⟩ rfl rfl ?_
        intro _ r20 H21 h
        refine GL.val trivial rfl (OV.assign (v := slv r20) rfl) ?_
        exact GL.jump (fun _ _ h => h) r20 h ⟨rfl, rfl, rfl, trivial⟩
      · replace h := And.right h hc19
        exact GC.jump (fun _ _ h => h) r14 h ⟨rfl, rfl, rfl, trivial⟩
    · intro x8 H9 h
      replace h := hR10 x8 H9 h
      refine GC.region ?_
      refine GL.val trivial rfl (OV.move (v := .int .i64 x3.2) rfl) ?_
      refine GL.val trivial rfl (OV.ibin (v := .int .i64 (w .i64 (x3.2 + 1))) rfl rfl rfl) ?_
      refine GL.val trivial rfl (OV.assign (v := .int .i64 (w .i64 (x3.2 + 1))) rfl) ?_
      exact GL.jump (fun _ _ h => h) (x8, (w .i64 (x3.2 + 1))) h ⟨rfl, rfl, rfl, trivial⟩
  · replace h := And.right h hc6
    refine GC.exit_to (fun _ _ h => h) ?_
    refine GC.seq ?_
    refine GC.region ?_
    refine GL.val trivial rfl (OV.move (v := slv x3.1) rfl) ?_
    refine GL.appendLit (s := x3.1) (ys := [.int .u8 0, .int .u8 0]) (zc := [.int .u8 0]) (bytes := 1) h trivial rfl (fun _ => trivial) rfl (fun _ => rfl) (fun _ => rfl) (vs := [(0, .int .u8 0), (1, .int .u8 0)]) rfl ⟨5, fun _ => by kernel_rfl⟩ ⟨⟨_, _, _, rfl, rfl, rfl, rfl, rfl, rfl⟩⟩ rfl rfl ?_
    intro _ r22 H23 h
    refine GL.val trivial rfl (OV.assign (v := slv r22) rfl) ?_
    refine GL.nil ?_
    exact GC.ret (fun _ _ hf hs => post_tmp1 rfl rfl hf hs ⟨r22, rfl, h⟩)

def sh_code_Flag (C : Ctx) (p_b : Sl) (p_v : Bool) (K : Sl → Heap → Prop) (H : Heap) : Prop :=
  c_code_behind C p_b (fun r1 H2 =>
 jn (α := Unit) (fun x4 H5 =>
 nck r1 fun p14 =>
 ldL H5 (p14.1, p14.2 + 0) fun x16 =>
 K x16 H5)
 (fun J3 => ift p_v
 (nw ([.int .u8 1]) (fun b8 H9 =>
 c_code_pen_put C r1 (Sl.of (some (b8, 0)) 1 1) (fun H10 =>
 J3 () H10) H9) H2)
 (nw ([.int .u8 0]) (fun b11 H12 =>
 c_code_pen_put C r1 (Sl.of (some (b11, 0)) 1 1) (fun H13 =>
 J3 () H13) H12) H2))) H

theorem ad_code_Flag (C : Ctx) (p_b : Sl) (p_v : Bool) (K : Sl → Heap → Prop) (H : Heap) (h : sh_code_Flag C p_b p_v K H) : c_code_Flag C p_b p_v K H := by
  refine Spec.enter Tryd.func19 rfl Tryd.ntmps19 rfl ?_
  refine GC.sub [(0, slv p_b), (1, .bool p_v)] ⟨rfl, rfl, trivial⟩ ?_
  refine GC.seq ?_
  refine GC.region ?_
  refine GL.val trivial rfl (OV.assign (v := slv Sl.nil) rfl) ?_
  refine GL.nil ?_
  refine GC.seq ?_
  refine GC.region ?_
  refine GL.val trivial rfl (OV.move (v := slv p_b) rfl) ?_
  refine GL.call h trivial rfl ok_code_behind (vs := [slv p_b]) rfl ?_
  rintro _ H2 ⟨r1, rfl, h⟩
  refine GL.val trivial rfl (OV.assign (v := pv r1) rfl) ?_
  refine GL.nil ?_
  obtain ⟨J3, h, hR6⟩ := h
  refine GC.join (α := Unit) J3 (fun _ => [(5, pv r1)]) ?_ ?_
  · skip
    refine GC.seq ?_
    refine GC.region ?_
    refine GL.val trivial rfl (OV.move (v := .bool p_v) rfl) ?_
    refine GL.nil ?_
    refine GC.cond (b := p_v) rfl (fun hc7 => ?_) (fun hc7 => ?_)
    · replace h := And.left h hc7
      refine GC.region ?_
      refine GL.val trivial rfl (OV.move (v := pv r1) rfl) ?_
      refine GL.buildSlice (cs := [.int .u8 1]) h trivial rfl (vs := [(0, .int .u8 1)]) rfl ⟨5, fun _ => by kernel_rfl⟩ ?_
      intro b8 H9 h
      refine GL.call h trivial rfl ok_code_pen_put (vs := [pv r1, slv (Sl.of (some (b8, 0)) 1 1)]) rfl ?_
      rintro _ H10 ⟨rfl, h⟩
      exact GL.jump (fun _ _ h => h) () h ⟨rfl, trivial⟩
    · replace h := And.right h hc7
      refine GC.region ?_
      refine GL.val trivial rfl (OV.move (v := pv r1) rfl) ?_
      refine GL.buildSlice (cs := [.int .u8 0]) h trivial rfl (vs := [(0, .int .u8 0)]) rfl ⟨5, fun _ => by kernel_rfl⟩ ?_
      intro b11 H12 h
      refine GL.call h trivial rfl ok_code_pen_put (vs := [pv r1, slv (Sl.of (some (b11, 0)) 1 1)]) rfl ?_
      rintro _ H13 ⟨rfl, h⟩
      exact GL.jump (fun _ _ h => h) () h ⟨rfl, trivial⟩
  · intro x4 H5 h
    replace h := hR6 x4 H5 h
    refine GC.seq ?_
    refine GC.region ?_
    refine GL.val trivial rfl (OV.move (v := pv r1) rfl) ?_
    obtain ⟨p14, hp15, h⟩ := h
    refine GL.val trivial rfl (OV.nilCheck (q := r1) rfl hp15) ?_
    refine GL.val trivial rfl (OV.fieldAddr (p := p14) rfl rfl) ?_
    obtain ⟨x16, hr17, h⟩ := h
    refine GL.val trivial rfl (OV.load (p := (p14.1, p14.2 + 0)) rfl rfl hr17) ?_
    refine GL.val trivial rfl (OV.assign (v := slv x16) rfl) ?_
    refine GL.nil ?_
    exact GC.ret (fun _ _ hf hs => post_tmp1 rfl rfl hf hs ⟨x16, rfl, h⟩)

def sh_ref03_Flag (C : Ctx) (p_b : Sl) (p_v : Bool) (K : Sl → Heap → Prop) (H : Heap) : Prop :=
  ift p_v
 (nw ([.int .u8 1]) (fun b2 H3 =>
 c_ref03_with C p_b (Sl.of (some (b2, 0)) 1 1) (fun r4 H5 =>
 K r4 H5) H3) H)
 (nw ([.int .u8 0]) (fun b6 H7 =>
 c_ref03_with C p_b (Sl.of (some (b6, 0)) 1 1) (fun r8 H9 =>
 K r8 H9) H7) H)

theorem ad_ref03_Flag (C : Ctx) (p_b : Sl) (p_v : Bool) (K : Sl → Heap → Prop) (H : Heap) (h : sh_ref03_Flag C p_b p_v K H) : c_ref03_Flag C p_b p_v K H := by
  refine Spec.enter Tryd.func20 rfl Tryd.ntmps20 rfl ?_
  refine GC.sub [(0, slv p_b), (1, .bool p_v)] ⟨rfl, rfl, trivial⟩ ?_
  refine GC.seq ?_
  refine GC.region ?_
  refine GL.val trivial rfl (OV.assign (v := slv Sl.nil) rfl) ?_
  refine GL.nil ?_
  refine GC.seq ?_
  refine GC.seq ?_
  refine GC.region ?_
  refine GL.val trivial rfl (OV.move (v := .bool p_v) rfl) ?_
  refine GL.nil ?_
  refine GC.cond (b := p_v) rfl (fun hc1 => ?_) (fun hc1 => ?_)
  · replace h := And.left h hc1
    refine GC.seq ?_
    refine GC.region ?_
    refine GL.val trivial rfl (OV.move (v := slv p_b) rfl) ?_
    refine GL.buildSlice (cs := [.int .u8 1]) h trivial rfl (vs := [(0, .int .u8 1)]) rfl ⟨5, fun _ => by kernel_rfl⟩ ?_
    intro b2 H3 h
    refine GL.call h trivial rfl ok_ref03_with (vs := [slv p_b, slv (Sl.of (some (b2, 0)) 1 1)]) rfl ?_
    rintro _ H5 ⟨r4, rfl, h⟩
    refine GL.val trivial rfl (OV.assign (v := slv r4) rfl) ?_
    refine GL.nil ?_
    exact GC.ret (fun _ _ hf hs => post_tmp1 rfl rfl hf hs ⟨r4, rfl, h⟩)
  · replace h := And.right h hc1
    refine GC.skip ?_
    refine GC.seq ?_
    refine GC.region ?_
    refine GL.val trivial rfl (OV.move (v := slv p_b) rfl) ?_
    refine GL.buildSlice (cs := [.int .u8 0]) h trivial rfl (vs := [(0, .int .u8 0)]) rfl ⟨5, fun _ => by kernel_rfl⟩ ?_
    intro b6 H7 h
    refine GL.call h trivial rfl ok_ref03_with (vs := [slv p_b, slv (Sl.of (some (b6, 0)) 1 1)]) rfl ?_
    rintro _ H9 ⟨r8, rfl, h⟩
    refine GL.val trivial rfl (OV.assign (v := slv r8) rfl) ?_
    refine GL.nil ?_
    exact GC.ret (fun _ _ hf hs => post_tmp1 rfl rfl hf hs ⟨r8, rfl, h⟩)

def sh_code_Value (C : Ctx) (p_b : Sl) (p_v : T_api_Value) (K : Sl → Heap → Prop) (H : Heap) : Prop :=
  nw (T_api_Value.c p_v) (fun b1 H2 =>
 c_code_behind C p_b (fun r3 H4 =>
 jn (α := Unit) (fun x6 H7 =>
 nck r3 fun p17 =>
 ldL H7 (p17.1, p17.2 + 0) fun x19 =>
 K x19 H7)
 (fun J5 => ldT H4 T_api_Value.c (b1, 0) fun x9 =>
 c_value_Check C x9 (fun r11 H12 =>
 ift ((r11 : Int) == 0)
 (ldT H12 T_api_Value.c (b1, 0) fun x14 =>
 c_code_pen_value C r3 x14 (fun H16 =>
 J5 () H16) H12)
 (J5 () H12)) H4)) H2) H

theorem ad_code_Value (C : Ctx) (p_b : Sl) (p_v : T_api_Value) (K : Sl → Heap → Prop) (H : Heap) (h : sh_code_Value C p_b p_v K H) : c_code_Value C p_b p_v K H := by
  refine Spec.enter Tryd.func21 rfl Tryd.ntmps21 rfl ?_
  refine GC.sub [(0, slv p_b), (1, .agg (T_api_Value.c p_v).toArray)] ⟨rfl, rfl, trivial⟩ ?_
  refine GC.seq ?_
  refine GC.region ?_
  refine GL.box (v := .agg (T_api_Value.c p_v).toArray) (cs := T_api_Value.c p_v) h trivial rfl rfl rfl ?_
  intro b1 H2 h
  refine GL.val trivial rfl (OV.assign (v := slv Sl.nil) rfl) ?_
  refine GL.nil ?_
  refine GC.seq ?_
  refine GC.region ?_
  refine GL.val trivial rfl (OV.move (v := slv p_b) rfl) ?_
  refine GL.call h trivial rfl ok_code_behind (vs := [slv p_b]) rfl ?_
  rintro _ H4 ⟨r3, rfl, h⟩
  refine GL.val trivial rfl (OV.assign (v := pv r3) rfl) ?_
  refine GL.nil ?_
  obtain ⟨J5, h, hR8⟩ := h
  refine GC.join (α := Unit) J5 (fun _ => [(5, pv r3)]) ?_ ?_
  · skip
    refine GC.seq ?_
    refine GC.region ?_
    obtain ⟨x9, hr10, h⟩ := h
    refine GL.val trivial rfl (OV.loadT (p := (b1, 0)) (cs := T_api_Value.c x9) rfl rfl rfl hr10) ?_
    refine GL.call h trivial rfl ok_value_Check (vs := [.agg (T_api_Value.c x9).toArray]) rfl ?_
    rintro _ H12 ⟨r11, rfl, h⟩
    refine GL.val trivial rfl (OV.ibin (v := .bool ((r11 : Int) == 0)) rfl rfl rfl) ?_
    refine GL.nil ?_
    refine GC.cond (b := (r11 : Int) == 0) rfl (fun hc13 => ?_) (fun hc13 => ?_)
    · replace h := And.left h hc13
      refine GC.region ?_
      refine GL.val trivial rfl (OV.move (v := pv r3) rfl) ?_
      obtain ⟨x14, hr15, h⟩ := h
      refine GL.val trivial rfl (OV.loadT (p := (b1, 0)) (cs := T_api_Value.c x14) rfl rfl rfl hr15) ?_
      refine GL.call h trivial rfl ok_code_pen_value (vs := [pv r3, .agg (T_api_Value.c x14).toArray]) rfl ?_
      rintro _ H16 ⟨rfl, h⟩
      exact GL.jump (fun _ _ h => h) () h ⟨rfl, trivial⟩
    · replace h := And.right h hc13
      exact GC.jump (fun _ _ h => h) () h ⟨rfl, trivial⟩
  · intro x6 H7 h
    replace h := hR8 x6 H7 h
    refine GC.seq ?_
    refine GC.region ?_
    refine GL.val trivial rfl (OV.move (v := pv r3) rfl) ?_
    obtain ⟨p17, hp18, h⟩ := h
    refine GL.val trivial rfl (OV.nilCheck (q := r3) rfl hp18) ?_
    refine GL.val trivial rfl (OV.fieldAddr (p := p17) rfl rfl) ?_
    obtain ⟨x19, hr20, h⟩ := h
    refine GL.val trivial rfl (OV.load (p := (p17.1, p17.2 + 0)) rfl rfl hr20) ?_
    refine GL.val trivial rfl (OV.assign (v := slv x19) rfl) ?_
    refine GL.nil ?_
    exact GC.ret (fun _ _ hf hs => post_tmp1 rfl rfl hf hs ⟨x19, rfl, h⟩)

def sh_ref03_Value (C : Ctx) (p_b : Sl) (p_v : T_api_Value) (K : Sl → Heap → Prop) (H : Heap) : Prop :=
  nw (T_api_Value.c p_v) (fun b1 H2 =>
 ldT H2 T_api_Value.c (b1, 0) fun x3 =>
 c_ref02_Check C x3 (fun r5 H6 =>
 ift ((r5 : Int) != 0)
 (c_ref03_with C p_b Sl.nil (fun r8 H9 =>
 K r8 H9) H6)
 (ldT H6 T_api_Value.c (b1, 0) fun x10 =>
 c_ref03_put C x10 (fun r12 H13 =>
 c_ref03_with C p_b r12 (fun r14 H15 =>
 K r14 H15) H13) H6)) H2) H

theorem ad_ref03_Value (C : Ctx) (p_b : Sl) (p_v : T_api_Value) (K : Sl → Heap → Prop) (H : Heap) (h : sh_ref03_Value C p_b p_v K H) : c_ref03_Value C p_b p_v K H := by
  refine Spec.enter Tryd.func22 rfl Tryd.ntmps22 rfl ?_
  refine GC.sub [(0, slv p_b), (1, .agg (T_api_Value.c p_v).toArray)] ⟨rfl, rfl, trivial⟩ ?_
  refine GC.seq ?_
  refine GC.region ?_
  refine GL.box (v := .agg (T_api_Value.c p_v).toArray) (cs := T_api_Value.c p_v) h trivial rfl rfl rfl ?_
  intro b1 H2 h
  refine GL.val trivial rfl (OV.assign (v := slv Sl.nil) rfl) ?_
  refine GL.nil ?_
  refine GC.seq ?_
  refine GC.seq ?_
  refine GC.region ?_
  obtain ⟨x3, hr4, h⟩ := h
  refine GL.val trivial rfl (OV.loadT (p := (b1, 0)) (cs := T_api_Value.c x3) rfl rfl rfl hr4) ?_
  refine GL.call h trivial rfl ok_ref02_Check (vs := [.agg (T_api_Value.c x3).toArray]) rfl ?_
  rintro _ H6 ⟨r5, rfl, h⟩
  refine GL.val trivial rfl (OV.ibin (v := .bool ((r5 : Int) != 0)) rfl rfl rfl) ?_
  refine GL.nil ?_
  refine GC.cond (b := (r5 : Int) != 0) rfl (fun hc7 => ?_) (fun hc7 => ?_)
  · replace h := And.left h hc7
    refine GC.seq ?_
    refine GC.region ?_
    refine GL.val trivial rfl (OV.move (v := slv p_b) rfl) ?_
    refine GL.call h trivial rfl ok_ref03_with (vs := [slv p_b, slv Sl.nil]) rfl ?_
    rintro _ H9 ⟨r8, rfl, h⟩
    refine GL.val trivial rfl (OV.assign (v := slv r8) rfl) ?_
    refine GL.nil ?_
    exact GC.ret (fun _ _ hf hs => post_tmp1 rfl rfl hf hs ⟨r8, rfl, h⟩)
  · replace h := And.right h hc7
    refine GC.skip ?_
    refine GC.seq ?_
    refine GC.region ?_
    refine GL.val trivial rfl (OV.move (v := slv p_b) rfl) ?_
    obtain ⟨x10, hr11, h⟩ := h
    refine GL.val trivial rfl (OV.loadT (p := (b1, 0)) (cs := T_api_Value.c x10) rfl rfl rfl hr11) ?_
    refine GL.call h trivial rfl ok_ref03_put (vs := [.agg (T_api_Value.c x10).toArray]) rfl ?_
    rintro _ H13 ⟨r12, rfl, h⟩
    refine GL.call h trivial rfl ok_ref03_with (vs := [slv p_b, slv r12]) rfl ?_
    rintro _ H15 ⟨r14, rfl, h⟩
    refine GL.val trivial rfl (OV.assign (v := slv r14) rfl) ?_
    refine GL.nil ?_
    exact GC.ret (fun _ _ hf hs => post_tmp1 rfl rfl hf hs ⟨r14, rfl, h⟩)

def sh_ref02_Cmp (C : Ctx) (p_a : T_api_Value) (p_b : T_api_Value) (K : Int → Heap → Prop) (H : Heap) : Prop :=
  nw (T_api_Value.c p_a) (fun b1 H2 =>
 nw (T_api_Value.c p_b) (fun b3 H4 =>
 dr H4 fun Hs5 =>
 ldT Hs5 T_api_Value.c (b1, 0) fun x7 =>
 ldT Hs5 T_api_Value.c (b3, 0) fun x9 =>
 c_ref02_Check C x7 (fun r12 H13 =>
 Heap.le Hs5 H13 ∧
 c_ref02_Check C x9 (fun r15 H16 =>
 Heap.le Hs5 H16 ∧
 ift ((!((r12 : Int) == 0)) || (!((r15 : Int) == 0)))
 (c_ref02_last C ((r12 : Int) == 0) ((r15 : Int) == 0) (fun r19 H20 =>
 K r19 H20) H16)
 (ldT H16 T_api_Value.c (b1, 0) fun x21 =>
 ldT H16 T_api_Value.c (b3, 0) fun x23 =>
 c_ref02_cmp C x21 x23 (fun r25 H26 =>
 K r25 H26) H16)) H13) H4) H2) H

theorem ad_ref02_Cmp (C : Ctx) (p_a : T_api_Value) (p_b : T_api_Value) (K : Int → Heap → Prop) (H : Heap) (h : sh_ref02_Cmp C p_a p_b K H) : c_ref02_Cmp C p_a p_b K H := by
  refine Spec.enter Tryd.func23 rfl Tryd.ntmps23 rfl ?_
  refine GC.sub [(0, .agg (T_api_Value.c p_a).toArray), (1, .agg (T_api_Value.c p_b).toArray)] ⟨rfl, rfl, trivial⟩ ?_
  refine GC.seq ?_
  refine GC.region ?_
  refine GL.box (v := .agg (T_api_Value.c p_a).toArray) (cs := T_api_Value.c p_a) h trivial rfl rfl rfl ?_
  intro b1 H2 h
  refine GL.box (v := .agg (T_api_Value.c p_b).toArray) (cs := T_api_Value.c p_b) h trivial rfl rfl rfl ?_
  intro b3 H4 h
  refine GL.val trivial rfl (OV.assign (v := .int .i64 0) rfl) ?_
  refine GL.nil ?_
  refine GC.seq ?_
  obtain ⟨Hs5, hle6, h⟩ := h
  refine GC.any (Hs := Hs5) (by kernel_rfl) hle6 ?_
  obtain ⟨x7, hr8, h⟩ := h
  refine GA.take 0 rfl (by kernel_rfl) (by kernel_rfl) (by kernel_rfl) (fun _ _ _ h => by obtain ⟨_, _, _, h, _⟩ := h; cases h) trivial rfl (OV.loadT (p := (b1, 0)) (cs := T_api_Value.c x7) rfl rfl rfl hr8) ?_
  obtain ⟨x9, hr10, h⟩ := h
  refine GA.take 3 rfl (by kernel_rfl) (by kernel_rfl) (by kernel_rfl) (fun _ _ _ h => by obtain ⟨_, _, _, h, _⟩ := h; cases h) trivial rfl (OV.loadT (p := (b3, 0)) (cs := T_api_Value.c x9) rfl rfl rfl hr10) ?_
  refine GA.eff 1 rfl (by kernel_rfl) ?_
  refine GL.call h trivial rfl ok_ref02_Check (vs := [.agg (T_api_Value.c x7).toArray]) rfl ?_
  rintro _ H13 ⟨r12, rfl, h⟩
  obtain ⟨hle11, h⟩ := h
  refine GA.back hle11 ?_
  refine GA.take 2 rfl (by kernel_rfl) (by kernel_rfl) (by kernel_rfl) (fun _ _ _ h => by obtain ⟨_, _, _, h, _⟩ := h; cases h) trivial rfl (OV.ibin (v := .bool ((r12 : Int) == 0)) rfl rfl rfl) ?_
  refine GA.eff 4 rfl (by kernel_rfl) ?_
  refine GL.call h trivial rfl ok_ref02_Check (vs := [.agg (T_api_Value.c x9).toArray]) rfl ?_
  rintro _ H16 ⟨r15, rfl, h⟩
  obtain ⟨hle14, h⟩ := h
  refine GA.back hle14 ?_
  refine GA.take 5 rfl (by kernel_rfl) (by kernel_rfl) (by kernel_rfl) (fun _ _ _ h => by obtain ⟨_, _, _, h, _⟩ := h; cases h) trivial rfl (OV.ibin (v := .bool ((r15 : Int) == 0)) rfl rfl rfl) ?_
  refine GA.take 6 rfl (by kernel_rfl) (by kernel_rfl) (by kernel_rfl) (fun _ _ _ h => by obtain ⟨_, _, _, h, _⟩ := h; cases h) trivial rfl (OV.assign (v := .bool ((r12 : Int) == 0)) rfl) ?_
  refine GA.take 7 rfl (by kernel_rfl) (by kernel_rfl) (by kernel_rfl) (fun _ _ _ h => by obtain ⟨_, _, _, h, _⟩ := h; cases h) trivial rfl (OV.assign (v := .bool ((r15 : Int) == 0)) rfl) ?_
  refine GA.done (by kernel_rfl) ?_
  refine GL.nil ?_
  refine GC.seq ?_
  refine GC.seq ?_
  refine GC.region ?_
  refine GL.val trivial rfl (OV.move (v := .bool ((r12 : Int) == 0)) rfl) ?_
  refine GL.val trivial rfl (OV.not rfl) ?_
  refine GL.val trivial rfl (OV.move (v := .bool (!((r12 : Int) == 0))) rfl) ?_
  refine GL.cut0 3 [(18, .bool ((!((r12 : Int) == 0)) || (!((r15 : Int) == 0)))), (2, pv (some (b1, 0))), (3, pv (some (b3, 0))), (5, .bool ((r12 : Int) == 0)), (6, .bool ((r15 : Int) == 0))] ?_ ?_
  · rcases Bool.eq_false_or_eq_true (!((r12 : Int) == 0)) with hc17 | hc17
    · skip
      refine GL.skip ⟨_, rfl, .inl ⟨_, rfl, hc17⟩⟩ rfl ?_
      refine GL.skip ⟨_, rfl, .inl ⟨_, rfl, hc17⟩⟩ rfl ?_
      refine GL.val trivial rfl (OV.pickT (b := !((r12 : Int) == 0)) (v := .bool true) rfl hc17 rfl) ?_
      exact GL.jump0 (fun _ _ h => h) () rfl ⟨(by rw [hc17]; rfl), rfl, rfl, rfl, rfl, trivial⟩
    · skip
      refine GL.val ⟨_, _, rfl, rfl, hc17⟩ rfl (OV.move (v := .bool ((r15 : Int) == 0)) rfl) ?_
      refine GL.val ⟨_, _, rfl, rfl, hc17⟩ rfl (OV.not rfl) ?_
      refine GL.val trivial rfl (OV.pickF (b := !((r12 : Int) == 0)) (v := .bool (!((r15 : Int) == 0))) rfl hc17 rfl) ?_
      exact GL.jump0 (fun _ _ h => h) () rfl ⟨(by rw [hc17]; rfl), rfl, rfl, rfl, rfl, trivial⟩
  refine GL.nil ?_
  refine GC.cond (b := (!((r12 : Int) == 0)) || (!((r15 : Int) == 0))) rfl (fun hc18 => ?_) (fun hc18 => ?_)
  · replace h := And.left h hc18
    refine GC.seq ?_
    refine GC.region ?_
    refine GL.val trivial rfl (OV.move (v := .bool ((r12 : Int) == 0)) rfl) ?_
    refine GL.val trivial rfl (OV.move (v := .bool ((r15 : Int) == 0)) rfl) ?_
    refine GL.call h trivial rfl ok_ref02_last (vs := [.bool ((r12 : Int) == 0), .bool ((r15 : Int) == 0)]) rfl ?_
    rintro _ H20 ⟨r19, rfl, h⟩
    refine GL.val trivial rfl (OV.assign (v := .int .i64 r19) rfl) ?_
    refine GL.nil ?_
    exact GC.ret (fun _ _ hf hs => post_tmp1 rfl rfl hf hs ⟨r19, rfl, h⟩)
  · replace h := And.right h hc18
    refine GC.skip ?_
    refine GC.seq ?_
    refine GC.region ?_
    obtain ⟨x21, hr22, h⟩ := h
    refine GL.val trivial rfl (OV.loadT (p := (b1, 0)) (cs := T_api_Value.c x21) rfl rfl rfl hr22) ?_
    obtain ⟨x23, hr24, h⟩ := h
    refine GL.val trivial rfl (OV.loadT (p := (b3, 0)) (cs := T_api_Value.c x23) rfl rfl rfl hr24) ?_
    refine GL.call h trivial rfl ok_ref02_cmp (vs := [.agg (T_api_Value.c x21).toArray, .agg (T_api_Value.c x23).toArray]) rfl ?_
    rintro _ H26 ⟨r25, rfl, h⟩
    refine GL.val trivial rfl (OV.assign (v := .int .i64 r25) rfl) ?_
    refine GL.nil ?_
    exact GC.ret (fun _ _ hf hs => post_tmp1 rfl rfl hf hs ⟨r25, rfl, h⟩)

def sh_law03_stands (C : Ctx) (p_a : Sl) (p_b : Sl) (K : Int → Heap → Prop) (H : Heap) : Prop :=
  b2s p_a (fun t1 =>
 b2s p_b (fun t4 =>
 ift (slt t1 t4)
 (K (-1) H)
 (b2s p_a (fun t8 =>
 b2s p_b (fun t11 =>
 ift (!(slt t8 t11 || (t8 == t11)))
 (K 1 H)
 (K 0 H)) H) H)) H) H

theorem ad_law03_stands (C : Ctx) (p_a : Sl) (p_b : Sl) (K : Int → Heap → Prop) (H : Heap) (h : sh_law03_stands C p_a p_b K H) : c_law03_stands C p_a p_b K H := by
  refine Spec.enter Tryd.func24 rfl Tryd.ntmps24 rfl ?_
  refine GC.sub [(0, slv p_a), (1, slv p_b)] ⟨rfl, rfl, trivial⟩ ?_
  refine GC.seq ?_
  refine GC.region ?_
  refine GL.val trivial rfl (OV.assign (v := .int .i64 0) rfl) ?_
  refine GL.nil ?_
  refine GC.seq ?_
  refine GC.seq ?_
  refine GC.region ?_
  refine GL.val trivial rfl (OV.move (v := slv p_a) rfl) ?_
  obtain ⟨t1, h2, h3, h⟩ := h
  refine GL.val trivial rfl (OV.b2s (b := p_a) (s := t1) h2 h3 rfl rfl rfl rfl) ?_
  refine GL.val trivial rfl (OV.move (v := slv p_b) rfl) ?_
  obtain ⟨t4, h5, h6, h⟩ := h
  refine GL.val trivial rfl (OV.b2s (b := p_b) (s := t4) h5 h6 rfl rfl rfl rfl) ?_
  refine GL.val trivial rfl (OV.sbin (a := t1) (b := t4) (v := .bool (slt t1 t4)) rfl rfl rfl) ?_
  refine GL.nil ?_
  refine GC.cond (b := slt t1 t4) rfl (fun hc7 => ?_) (fun hc7 => ?_)
  · replace h := And.left h hc7
    refine GC.seq ?_
    refine GC.region ?_
    refine GL.val trivial rfl (OV.assign (v := .int .i64 (-1)) rfl) ?_
    refine GL.nil ?_
    exact GC.ret (fun _ _ hf hs => post_tmp1 rfl rfl hf hs ⟨(-1), rfl, h⟩)
  · replace h := And.right h hc7
    refine GC.skip ?_
    refine GC.seq ?_
    refine GC.seq ?_
    refine GC.region ?_
    refine GL.val trivial rfl (OV.move (v := slv p_a) rfl) ?_
    obtain ⟨t8, h9, h10, h⟩ := h
    refine GL.val trivial rfl (OV.b2s (b := p_a) (s := t8) h9 h10 rfl rfl rfl rfl) ?_
    refine GL.val trivial rfl (OV.move (v := slv p_b) rfl) ?_
    obtain ⟨t11, h12, h13, h⟩ := h
    refine GL.val trivial rfl (OV.b2s (b := p_b) (s := t11) h12 h13 rfl rfl rfl rfl) ?_
    refine GL.val trivial rfl (OV.sbin (a := t8) (b := t11) (v := .bool (!(slt t8 t11 || (t8 == t11)))) rfl rfl rfl) ?_
    refine GL.nil ?_
    refine GC.cond (b := !(slt t8 t11 || (t8 == t11))) rfl (fun hc14 => ?_) (fun hc14 => ?_)
    · replace h := And.left h hc14
      refine GC.seq ?_
      refine GC.region ?_
      refine GL.val trivial rfl (OV.assign (v := .int .i64 1) rfl) ?_
      refine GL.nil ?_
      exact GC.ret (fun _ _ hf hs => post_tmp1 rfl rfl hf hs ⟨1, rfl, h⟩)
    · replace h := And.right h hc14
      refine GC.skip ?_
      refine GC.seq ?_
      refine GC.region ?_
      refine GL.val trivial rfl (OV.assign (v := .int .i64 0) rfl) ?_
      refine GL.nil ?_
      exact GC.ret (fun _ _ hf hs => post_tmp1 rfl rfl hf hs ⟨0, rfl, h⟩)

def sh_law03_behind (C : Ctx) (p_a : Sl) (p_b : Sl) (K : Sl → Heap → Prop) (H : Heap) : Prop :=
  nw ([]) (fun b1 H2 =>
 apS ([.int .u8 0]) 1 (Sl.of (some (b1, 0)) 0 0) p_a (fun r3 H4 =>
 apS ([.int .u8 0]) 1 r3 p_b (fun r5 H6 =>
 K r5 H6) H4) H2) H

theorem ad_law03_behind (C : Ctx) (p_a : Sl) (p_b : Sl) (K : Sl → Heap → Prop) (H : Heap) (h : sh_law03_behind C p_a p_b K H) : c_law03_behind C p_a p_b K H := by
  refine Spec.enter Tryd.func25 rfl Tryd.ntmps25 rfl ?_
  refine GC.sub [(0, slv p_a), (1, slv p_b)] ⟨rfl, rfl, trivial⟩ ?_
  refine GC.seq ?_
  refine GC.region ?_
  refine GL.val trivial rfl (OV.assign (v := slv Sl.nil) rfl) ?_
  refine GL.nil ?_
  refine GC.seq ?_
  refine GC.region ?_
  refine GL.buildSlice (cs := []) h trivial rfl (vs := []) rfl ⟨5, fun _ => by kernel_rfl⟩ ?_
  intro b1 H2 h
  refine GL.val trivial rfl (OV.move (v := slv p_a) rfl) ?_
  refine GL.appendS (s := (Sl.of (some (b1, 0)) 0 0)) (s2 := p_a) (zc := [.int .u8 0]) (bytes := 1) h trivial rfl rfl rfl ⟨⟨_, _, _, rfl, rfl, rfl, rfl, rfl, rfl⟩⟩ rfl ?_
  intro r3 H4 h
  refine GL.val trivial rfl (OV.move (v := slv p_b) rfl) ?_
  refine GL.appendS (s := r3) (s2 := p_b) (zc := [.int .u8 0]) (bytes := 1) h trivial rfl rfl rfl ⟨⟨_, _, _, rfl, rfl, rfl, rfl, rfl, rfl⟩⟩ rfl ?_
  intro r5 H6 h
  refine GL.val trivial rfl (OV.assign (v := slv r5) rfl) ?_
  refine GL.nil ?_
  exact GC.ret (fun _ _ hf hs => post_tmp1 rfl rfl hf hs ⟨r5, rfl, h⟩)

def sh_ref02_Check (C : Ctx) (p_v : T_api_Value) (K : Int → Heap → Prop) (H : Heap) : Prop :=
  nw (T_api_Value.c p_v) (fun b1 H2 =>
 ldT H2 T_api_Value.c (b1, 0) fun x3 =>
 c_ref02_Depth C x3 (fun r5 H6 =>
 ift (decide ((r5 : Int) > 64))
 (K 65 H6)
 (ldT H6 T_api_Value.c (b1, 0) fun x8 =>
 c_ref02_form C x8 (fun r10 H11 =>
 ift (!r10)
 (K 4 H11)
 (ldT H11 T_api_Value.c (b1, 0) fun x13 =>
 c_ref02_fits C x13 (fun r15 H16 =>
 ift (!r15)
 (K 40 H16)
 (K 0 H16)) H11)) H6)) H2) H

theorem ad_ref02_Check (C : Ctx) (p_v : T_api_Value) (K : Int → Heap → Prop) (H : Heap) (h : sh_ref02_Check C p_v K H) : c_ref02_Check C p_v K H := by
  refine Spec.enter Tryd.func26 rfl Tryd.ntmps26 rfl ?_
  refine GC.sub [(0, .agg (T_api_Value.c p_v).toArray)] ⟨rfl, trivial⟩ ?_
  refine GC.seq ?_
  refine GC.region ?_
  refine GL.box (v := .agg (T_api_Value.c p_v).toArray) (cs := T_api_Value.c p_v) h trivial rfl rfl rfl ?_
  intro b1 H2 h
  refine GL.val trivial rfl (OV.assign (v := .int .i64 0) rfl) ?_
  refine GL.nil ?_
  refine GC.seq ?_
  refine GC.seq ?_
  refine GC.region ?_
  obtain ⟨x3, hr4, h⟩ := h
  refine GL.val trivial rfl (OV.loadT (p := (b1, 0)) (cs := T_api_Value.c x3) rfl rfl rfl hr4) ?_
  refine GL.call h trivial rfl ok_ref02_Depth (vs := [.agg (T_api_Value.c x3).toArray]) rfl ?_
  rintro _ H6 ⟨r5, rfl, h⟩
  refine GL.val trivial rfl (OV.ibin (v := .bool (decide ((r5 : Int) > 64))) rfl rfl rfl) ?_
  refine GL.nil ?_
  refine GC.cond (b := decide ((r5 : Int) > 64)) rfl (fun hc7 => ?_) (fun hc7 => ?_)
  · replace h := And.left h hc7
    refine GC.seq ?_
    refine GC.region ?_
    refine GL.val trivial rfl (OV.assign (v := .int .i64 65) rfl) ?_
    refine GL.nil ?_
    exact GC.ret (fun _ _ hf hs => post_tmp1 rfl rfl hf hs ⟨65, rfl, h⟩)
  · replace h := And.right h hc7
    refine GC.skip ?_
    refine GC.seq ?_
    refine GC.seq ?_
    refine GC.region ?_
    obtain ⟨x8, hr9, h⟩ := h
    refine GL.val trivial rfl (OV.loadT (p := (b1, 0)) (cs := T_api_Value.c x8) rfl rfl rfl hr9) ?_
    refine GL.call h trivial rfl ok_ref02_form (vs := [.agg (T_api_Value.c x8).toArray]) rfl ?_
    rintro _ H11 ⟨r10, rfl, h⟩
    refine GL.val trivial rfl (OV.not rfl) ?_
    refine GL.nil ?_
    refine GC.cond (b := !r10) rfl (fun hc12 => ?_) (fun hc12 => ?_)
    · replace h := And.left h hc12
      refine GC.seq ?_
      refine GC.region ?_
      refine GL.val trivial rfl (OV.assign (v := .int .i64 4) rfl) ?_
      refine GL.nil ?_
      exact GC.ret (fun _ _ hf hs => post_tmp1 rfl rfl hf hs ⟨4, rfl, h⟩)
    · replace h := And.right h hc12
      refine GC.skip ?_
      refine GC.seq ?_
      refine GC.seq ?_
      refine GC.region ?_
      obtain ⟨x13, hr14, h⟩ := h
      refine GL.val trivial rfl (OV.loadT (p := (b1, 0)) (cs := T_api_Value.c x13) rfl rfl rfl hr14) ?_
      refine GL.call h trivial rfl ok_ref02_fits (vs := [.agg (T_api_Value.c x13).toArray]) rfl ?_
      rintro _ H16 ⟨r15, rfl, h⟩
      refine GL.val trivial rfl (OV.not rfl) ?_
      refine GL.nil ?_
      refine GC.cond (b := !r15) rfl (fun hc17 => ?_) (fun hc17 => ?_)
      · replace h := And.left h hc17
        refine GC.seq ?_
        refine GC.region ?_
        refine GL.val trivial rfl (OV.assign (v := .int .i64 40) rfl) ?_
        refine GL.nil ?_
        exact GC.ret (fun _ _ hf hs => post_tmp1 rfl rfl hf hs ⟨40, rfl, h⟩)
      · replace h := And.right h hc17
        refine GC.skip ?_
        refine GC.seq ?_
        refine GC.region ?_
        refine GL.val trivial rfl (OV.assign (v := .int .i64 0) rfl) ?_
        refine GL.nil ?_
        exact GC.ret (fun _ _ hf hs => post_tmp1 rfl rfl hf hs ⟨0, rfl, h⟩)

def sh_ref02_CmpRows (C : Ctx) (p_a : Sl) (p_b : Sl) (K : Int → Heap → Prop) (H : Heap) : Prop :=
  c_ref02_Row C p_a (fun r1 H2 =>
 c_ref02_Row C p_b (fun r3 H4 =>
 ift ((!r1) || (!r3))
 (c_ref02_last C r1 r3 (fun r7 H8 =>
 K r7 H8) H4)
 (c_ref02_rows C p_a p_b (fun r9 H10 =>
 K r9 H10) H4)) H2) H

theorem ad_ref02_CmpRows (C : Ctx) (p_a : Sl) (p_b : Sl) (K : Int → Heap → Prop) (H : Heap) (h : sh_ref02_CmpRows C p_a p_b K H) : c_ref02_CmpRows C p_a p_b K H := by
  refine Spec.enter Tryd.func27 rfl Tryd.ntmps27 rfl ?_
  refine GC.sub [(0, slv p_a), (1, slv p_b)] ⟨rfl, rfl, trivial⟩ ?_
  refine GC.seq ?_
  refine GC.region ?_
  refine GL.val trivial rfl (OV.assign (v := .int .i64 0) rfl) ?_
  refine GL.nil ?_
  refine GC.seq ?_
  refine GC.region ?_
  refine GL.val trivial rfl (OV.move (v := slv p_a) rfl) ?_
  refine GL.call h trivial rfl ok_ref02_Row (vs := [slv p_a]) rfl ?_
  rintro _ H2 ⟨r1, rfl, h⟩
  refine GL.val trivial rfl (OV.move (v := slv p_b) rfl) ?_
  refine GL.call h trivial rfl ok_ref02_Row (vs := [slv p_b]) rfl ?_
  rintro _ H4 ⟨r3, rfl, h⟩
  refine GL.val trivial rfl (OV.assign (v := .bool r1) rfl) ?_
  refine GL.val trivial rfl (OV.assign (v := .bool r3) rfl) ?_
  refine GL.nil ?_
  refine GC.seq ?_
  refine GC.seq ?_
  refine GC.region ?_
  refine GL.val trivial rfl (OV.move (v := .bool r1) rfl) ?_
  refine GL.val trivial rfl (OV.not rfl) ?_
  refine GL.val trivial rfl (OV.move (v := .bool (!r1)) rfl) ?_
  refine GL.cut0 3 [(16, .bool ((!r1) || (!r3))), (0, slv p_a), (1, slv p_b), (5, .bool r1), (6, .bool r3)] ?_ ?_
  · rcases Bool.eq_false_or_eq_true (!r1) with hc5 | hc5
    · skip
      refine GL.skip ⟨_, rfl, .inl ⟨_, rfl, hc5⟩⟩ rfl ?_
      refine GL.skip ⟨_, rfl, .inl ⟨_, rfl, hc5⟩⟩ rfl ?_
      refine GL.val trivial rfl (OV.pickT (b := !r1) (v := .bool true) rfl hc5 rfl) ?_
      exact GL.jump0 (fun _ _ h => h) () rfl ⟨(by rw [hc5]; rfl), rfl, rfl, rfl, rfl, trivial⟩
    · skip
      refine GL.val ⟨_, _, rfl, rfl, hc5⟩ rfl (OV.move (v := .bool r3) rfl) ?_
      refine GL.val ⟨_, _, rfl, rfl, hc5⟩ rfl (OV.not rfl) ?_
      refine GL.val trivial rfl (OV.pickF (b := !r1) (v := .bool (!r3)) rfl hc5 rfl) ?_
      exact GL.jump0 (fun _ _ h => h) () rfl ⟨(by rw [hc5]; rfl), rfl, rfl, rfl, rfl, trivial⟩
  refine GL.nil ?_
  refine GC.cond (b := (!r1) || (!r3)) rfl (fun hc6 => ?_) (fun hc6 => ?_)
  · replace h := And.left h hc6
    refine GC.seq ?_
    refine GC.region ?_
    refine GL.val trivial rfl (OV.move (v := .bool r1) rfl) ?_
    refine GL.val trivial rfl (OV.move (v := .bool r3) rfl) ?_
    refine GL.call h trivial rfl ok_ref02_last (vs := [.bool r1, .bool r3]) rfl ?_
    rintro _ H8 ⟨r7, rfl, h⟩
    refine GL.val trivial rfl (OV.assign (v := .int .i64 r7) rfl) ?_
    refine GL.nil ?_
    exact GC.ret (fun _ _ hf hs => post_tmp1 rfl rfl hf hs ⟨r7, rfl, h⟩)
  · replace h := And.right h hc6
    refine GC.skip ?_
    refine GC.seq ?_
    refine GC.region ?_
    refine GL.val trivial rfl (OV.move (v := slv p_a) rfl) ?_
    refine GL.val trivial rfl (OV.move (v := slv p_b) rfl) ?_
    refine GL.call h trivial rfl ok_ref02_rows (vs := [slv p_a, slv p_b]) rfl ?_
    rintro _ H10 ⟨r9, rfl, h⟩
    refine GL.val trivial rfl (OV.assign (v := .int .i64 r9) rfl) ?_
    refine GL.nil ?_
    exact GC.ret (fun _ _ hf hs => post_tmp1 rfl rfl hf hs ⟨r9, rfl, h⟩)

def sh_code_NewReader (C : Ctx) (p_b : Sl) (K : Option (Nat × Nat) → Heap → Prop) (H : Heap) : Prop :=
  c_slices_Clone_byte_byte C p_b (fun r1 H2 =>
 nw (T_code_Reader.c (⟨r1, 0, false⟩ : T_code_Reader)) (fun b3 H4 =>
 K (some (b3, 0)) H4) H2) H

theorem ad_code_NewReader (C : Ctx) (p_b : Sl) (K : Option (Nat × Nat) → Heap → Prop) (H : Heap) (h : sh_code_NewReader C p_b K H) : c_code_NewReader C p_b K H := by
  refine Spec.enter Tryd.func28 rfl Tryd.ntmps28 rfl ?_
  refine GC.sub [(0, slv p_b)] ⟨rfl, trivial⟩ ?_
  refine GC.seq ?_
  refine GC.region ?_
  refine GL.val trivial rfl (OV.assign (v := pv none) rfl) ?_
  refine GL.nil ?_
  refine GC.seq ?_
  refine GC.region ?_
  refine GL.val trivial rfl (OV.move (v := slv p_b) rfl) ?_
  refine GL.call h trivial rfl ok_slices_Clone_byte_byte (vs := [slv p_b]) rfl ?_
  rintro _ H2 ⟨r1, rfl, h⟩
  refine GL.val trivial rfl (OV.build (vs := [(0, slv r1)]) (v := .agg (T_code_Reader.c (⟨r1, 0, false⟩ : T_code_Reader)).toArray) rfl (fun _ => by kernel_rfl)) ?_
  refine GL.box (v := .agg (T_code_Reader.c (⟨r1, 0, false⟩ : T_code_Reader)).toArray) (cs := T_code_Reader.c (⟨r1, 0, false⟩ : T_code_Reader)) h trivial rfl rfl rfl ?_
  intro b3 H4 h
  refine GL.val trivial rfl (OV.assign (v := pv (some (b3, 0))) rfl) ?_
  refine GL.nil ?_
  exact GC.ret (fun _ _ hf hs => post_tmp1 rfl rfl hf hs ⟨(some (b3, 0)), rfl, h⟩)

def sh_law03_Ask_of (C : Ctx) (p_a : T_law03_Ask) (p_r : Option (Nat × Nat)) (K : T_law03_told → Heap → Prop) (H : Heap) : Prop :=
  nw (T_law03_Ask.c p_a) (fun b1 H2 =>
 nw (T_law03_told.c T_law03_told.zero) (fun b3 H4 =>
 nw (T_law03_told.c T_law03_told.zero) (fun b5 H6 =>
 jn (α := Unit) (fun x8 H9 =>
 c_code_Reader_OK C p_r (fun r37 H38 =>
 st ((b5, 0).1, (b5, 0).2 + 6) (.bool r37) (fun H39 =>
 ldT H39 T_law03_told.c (b5, 0) fun x40 =>
 stT (b3, 0) (T_law03_told.c x40) (fun H42 =>
 ldT H42 T_law03_told.c (b3, 0) fun x43 =>
 K x43 H42) H39) H38) H9)
 (fun J7 => ldI H6 .u8 ((b1, 0).1, (b1, 0).2 + 0) fun x11 =>
 ift ((x11 : Int) == 0)
 (c_code_Reader_Num C p_r (fun r14 H15 =>
 st ((b5, 0).1, (b5, 0).2 + 0) (.int .i64 r14) (fun H16 =>
 J7 () H16) H15) H6)
 (ift ((x11 : Int) == 1)
 (ldI H6 .i64 ((b1, 0).1, (b1, 0).2 + 1) fun x18 =>
 c_code_Reader_Count C p_r x18 (fun r20 H21 =>
 st ((b5, 0).1, (b5, 0).2 + 0) (.int .i64 r20) (fun H22 =>
 J7 () H22) H21) H6)
 (ift ((x11 : Int) == 2)
 (ldI H6 .i64 ((b1, 0).1, (b1, 0).2 + 1) fun x24 =>
 c_code_Reader_Str C p_r x24 (fun r26 H27 =>
 st ((b5, 0).1, (b5, 0).2 + 1) (sv r26) (fun H28 =>
 J7 () H28) H27) H6)
 (ift ((x11 : Int) == 3)
 (c_code_Reader_Flag C p_r (fun r30 H31 =>
 ift r30
 (st ((b5, 0).1, (b5, 0).2 + 0) (.int .i64 1) (fun H33 =>
 J7 () H33) H31)
 (J7 () H31)) H6)
 (c_code_Reader_Value C p_r (fun r34 H35 =>
 stT ((b5, 0).1, (b5, 0).2 + 2) (T_api_Value.c r34) (fun H36 =>
 J7 () H36) H35) H6)))))) H4) H2) H

theorem ad_law03_Ask_of (C : Ctx) (p_a : T_law03_Ask) (p_r : Option (Nat × Nat)) (K : T_law03_told → Heap → Prop) (H : Heap) (h : sh_law03_Ask_of C p_a p_r K H) : c_law03_Ask_of C p_a p_r K H := by
  refine Spec.enter Tryd.func29 rfl Tryd.ntmps29 rfl ?_
  refine GC.sub [(0, .agg (T_law03_Ask.c p_a).toArray), (1, pv p_r)] ⟨rfl, rfl, trivial⟩ ?_
  refine GC.seq ?_
  refine GC.region ?_
  refine GL.box (v := .agg (T_law03_Ask.c p_a).toArray) (cs := T_law03_Ask.c p_a) h trivial rfl rfl rfl ?_
  intro b1 H2 h
  refine GL.alloc (cs := T_law03_told.c T_law03_told.zero) h trivial rfl rfl rfl ?_
  intro b3 H4 h
  refine GL.nil ?_
  refine GC.seq ?_
  refine GC.region ?_
  refine GL.alloc (cs := T_law03_told.c T_law03_told.zero) h trivial rfl rfl rfl ?_
  intro b5 H6 h
  refine GL.nil ?_
  obtain ⟨J7, h, hR10⟩ := h
  refine GC.join (α := Unit) J7 (fun _ => [(1, pv p_r), (4, pv (some (b3, 0))), (5, pv (some (b5, 0)))]) ?_ ?_
  · skip
    refine GC.seq ?_
    refine GC.region ?_
    refine GL.val trivial rfl (OV.fieldAddr (p := (b1, 0)) rfl rfl) ?_
    obtain ⟨x11, hr12, h⟩ := h
    refine GL.val trivial rfl (OV.load (p := ((b1, 0).1, (b1, 0).2 + 0)) rfl rfl hr12) ?_
    refine GL.nil ?_
    refine GC.block ?_
    refine GC.seq ?_
    refine GC.region ?_
    refine GL.val trivial rfl (OV.ibin (v := .bool ((x11 : Int) == 0)) rfl rfl rfl) ?_
    refine GL.val trivial rfl (OV.assign (v := .bool ((x11 : Int) == 0)) rfl) ?_
    refine GL.nil ?_
    refine GC.cond (b := (x11 : Int) == 0) rfl (fun hc13 => ?_) (fun hc13 => ?_)
    · replace h := And.left h hc13
      refine GC.region ?_
      refine GL.val trivial rfl (OV.move (v := pv p_r) rfl) ?_
      refine GL.call h trivial rfl ok_code_Reader_Num (vs := [pv p_r]) rfl ?_
      rintro _ H15 ⟨r14, rfl, h⟩
      refine GL.val trivial rfl (OV.fieldAddr (p := (b5, 0)) rfl rfl) ?_
      refine GL.store (p := ((b5, 0).1, (b5, 0).2 + 0)) (v := .int .i64 r14) h trivial rfl rfl rfl rfl ?_
      intro H16 h
      exact GL.jump (fun _ _ h => h) () h ⟨rfl, rfl, rfl, trivial⟩
    · replace h := And.right h hc13
      refine GC.seq ?_
      refine GC.region ?_
      refine GL.val trivial rfl (OV.ibin (v := .bool ((x11 : Int) == 1)) rfl rfl rfl) ?_
      refine GL.val trivial rfl (OV.assign (v := .bool ((x11 : Int) == 1)) rfl) ?_
      refine GL.nil ?_
      refine GC.cond (b := (x11 : Int) == 1) rfl (fun hc17 => ?_) (fun hc17 => ?_)
      · replace h := And.left h hc17
        refine GC.region ?_
        refine GL.val trivial rfl (OV.move (v := pv p_r) rfl) ?_
        refine GL.val trivial rfl (OV.fieldAddr (p := (b1, 0)) rfl rfl) ?_
        obtain ⟨x18, hr19, h⟩ := h
        refine GL.val trivial rfl (OV.load (p := ((b1, 0).1, (b1, 0).2 + 1)) rfl rfl hr19) ?_
        refine GL.call h trivial rfl ok_code_Reader_Count (vs := [pv p_r, .int .i64 x18]) rfl ?_
        rintro _ H21 ⟨r20, rfl, h⟩
        refine GL.val trivial rfl (OV.fieldAddr (p := (b5, 0)) rfl rfl) ?_
        refine GL.store (p := ((b5, 0).1, (b5, 0).2 + 0)) (v := .int .i64 r20) h trivial rfl rfl rfl rfl ?_
        intro H22 h
        exact GL.jump (fun _ _ h => h) () h ⟨rfl, rfl, rfl, trivial⟩
      · replace h := And.right h hc17
        refine GC.seq ?_
        refine GC.region ?_
        refine GL.val trivial rfl (OV.ibin (v := .bool ((x11 : Int) == 2)) rfl rfl rfl) ?_
        refine GL.val trivial rfl (OV.assign (v := .bool ((x11 : Int) == 2)) rfl) ?_
        refine GL.nil ?_
        refine GC.cond (b := (x11 : Int) == 2) rfl (fun hc23 => ?_) (fun hc23 => ?_)
        · replace h := And.left h hc23
          refine GC.region ?_
          refine GL.val trivial rfl (OV.move (v := pv p_r) rfl) ?_
          refine GL.val trivial rfl (OV.fieldAddr (p := (b1, 0)) rfl rfl) ?_
          obtain ⟨x24, hr25, h⟩ := h
          refine GL.val trivial rfl (OV.load (p := ((b1, 0).1, (b1, 0).2 + 1)) rfl rfl hr25) ?_
          refine GL.call h trivial rfl ok_code_Reader_Str (vs := [pv p_r, .int .i64 x24]) rfl ?_
          rintro _ H27 ⟨r26, rfl, h⟩
          refine GL.val trivial rfl (OV.fieldAddr (p := (b5, 0)) rfl rfl) ?_
          refine GL.store (p := ((b5, 0).1, (b5, 0).2 + 1)) (v := sv r26) h trivial rfl rfl rfl rfl ?_
          intro H28 h
          exact GL.jump (fun _ _ h => h) () h ⟨rfl, rfl, rfl, trivial⟩
        · replace h := And.right h hc23
          refine GC.seq ?_
          refine GC.region ?_
          refine GL.val trivial rfl (OV.ibin (v := .bool ((x11 : Int) == 3)) rfl rfl rfl) ?_
          refine GL.val trivial rfl (OV.assign (v := .bool ((x11 : Int) == 3)) rfl) ?_
          refine GL.nil ?_
          refine GC.cond (b := (x11 : Int) == 3) rfl (fun hc29 => ?_) (fun hc29 => ?_)
          · replace h := And.left h hc29
            refine GC.seq ?_
            refine GC.region ?_
            refine GL.val trivial rfl (OV.move (v := pv p_r) rfl) ?_
            refine GL.call h trivial rfl ok_code_Reader_Flag (vs := [pv p_r]) rfl ?_
            rintro _ H31 ⟨r30, rfl, h⟩
            refine GL.nil ?_
            refine GC.cond (b := r30) rfl (fun hc32 => ?_) (fun hc32 => ?_)
            · replace h := And.left h hc32
              refine GC.region ?_
              refine GL.val trivial rfl (OV.fieldAddr (p := (b5, 0)) rfl rfl) ?_
              refine GL.store (p := ((b5, 0).1, (b5, 0).2 + 0)) (v := .int .i64 1) h trivial rfl rfl rfl rfl ?_
              intro H33 h
              exact GL.jump (fun _ _ h => h) () h ⟨rfl, rfl, rfl, trivial⟩
            · replace h := And.right h hc32
              exact GC.jump (fun _ _ h => h) () h ⟨rfl, rfl, rfl, trivial⟩
          · replace h := And.right h hc29
            refine GC.region ?_
            refine GL.val trivial rfl (OV.move (v := pv p_r) rfl) ?_
            refine GL.call h trivial rfl ok_code_Reader_Value (vs := [pv p_r]) rfl ?_
            rintro _ H35 ⟨r34, rfl, h⟩
            refine GL.val trivial rfl (OV.fieldAddr (p := (b5, 0)) rfl rfl) ?_
            refine GL.storeT (p := ((b5, 0).1, (b5, 0).2 + 2)) (vs := T_api_Value.c r34) h trivial rfl rfl rfl rfl ?_
            intro H36 h
            exact GL.jump (fun _ _ h => h) () h ⟨rfl, rfl, rfl, trivial⟩
  · intro x8 H9 h
    replace h := hR10 x8 H9 h
    refine GC.seq ?_
    refine GC.region ?_
    refine GL.val trivial rfl (OV.move (v := pv p_r) rfl) ?_
    refine GL.call h trivial rfl ok_code_Reader_OK (vs := [pv p_r]) rfl ?_
    rintro _ H38 ⟨r37, rfl, h⟩
    refine GL.val trivial rfl (OV.fieldAddr (p := (b5, 0)) rfl rfl) ?_
    refine GL.store (p := ((b5, 0).1, (b5, 0).2 + 6)) (v := .bool r37) h trivial rfl rfl rfl rfl ?_
    intro H39 h
    refine GL.nil ?_
    refine GC.seq ?_
    refine GC.region ?_
    obtain ⟨x40, hr41, h⟩ := h
    refine GL.val trivial rfl (OV.loadT (p := (b5, 0)) (cs := T_law03_told.c x40) rfl rfl rfl hr41) ?_
    refine GL.storeT (p := (b3, 0)) (vs := T_law03_told.c x40) h trivial rfl rfl rfl rfl ?_
    intro H42 h
    refine GL.nil ?_
    obtain ⟨x43, hr44, h⟩ := h
    exact GC.ret (fun _ _ hf hs => post_res1 rfl (RV.cellT (p := (b3, 0)) (cs := T_law03_told.c x43) rfl rfl rfl hr44) hf hs ⟨x43, rfl, h⟩)

def sh_code_Reader_Left (C : Ctx) (p_r : Option (Nat × Nat)) (K : Int → Heap → Prop) (H : Heap) : Prop :=
  ift (Option.isNone p_r)
 (K 0 H)
 (nck p_r fun p2 =>
 ldL H (p2.1, p2.2 + 0) fun x4 =>
 K (Sl.len x4 : Int) H)

theorem ad_code_Reader_Left (C : Ctx) (p_r : Option (Nat × Nat)) (K : Int → Heap → Prop) (H : Heap) (h : sh_code_Reader_Left C p_r K H) : c_code_Reader_Left C p_r K H := by
  refine Spec.enter Tryd.func30 rfl Tryd.ntmps30 rfl ?_
  refine GC.sub [(0, pv p_r)] ⟨rfl, trivial⟩ ?_
  refine GC.seq ?_
  refine GC.region ?_
  refine GL.val trivial rfl (OV.assign (v := .int .i64 0) rfl) ?_
  refine GL.nil ?_
  refine GC.seq ?_
  refine GC.seq ?_
  refine GC.region ?_
  refine GL.val trivial rfl (OV.move (v := pv p_r) rfl) ?_
  refine GL.val trivial rfl (OV.eqlNil (p := p_r) rfl rfl rfl) ?_
  refine GL.nil ?_
  refine GC.cond (b := Option.isNone p_r) rfl (fun hc1 => ?_) (fun hc1 => ?_)
  · replace h := And.left h hc1
    refine GC.seq ?_
    refine GC.region ?_
    refine GL.val trivial rfl (OV.assign (v := .int .i64 0) rfl) ?_
    refine GL.nil ?_
    exact GC.ret (fun _ _ hf hs => post_tmp1 rfl rfl hf hs ⟨0, rfl, h⟩)
  · replace h := And.right h hc1
    refine GC.skip ?_
    refine GC.seq ?_
    refine GC.region ?_
    refine GL.val trivial rfl (OV.move (v := pv p_r) rfl) ?_
    obtain ⟨p2, hp3, h⟩ := h
    refine GL.val trivial rfl (OV.nilCheck (q := p_r) rfl hp3) ?_
    refine GL.val trivial rfl (OV.fieldAddr (p := p2) rfl rfl) ?_
    obtain ⟨x4, hr5, h⟩ := h
    refine GL.val trivial rfl (OV.load (p := (p2.1, p2.2 + 0)) rfl rfl hr5) ?_
    refine GL.val trivial rfl (OV.lenSl (s := x4) rfl rfl) ?_
    refine GL.val trivial rfl (OV.assign (v := .int .i64 (Sl.len x4 : Int)) rfl) ?_
    refine GL.nil ?_
    exact GC.ret (fun _ _ hf hs => post_tmp1 rfl rfl hf hs ⟨(Sl.len x4 : Int), rfl, h⟩)

def sh_law03_told_same (C : Ctx) (p_t : T_law03_told) (p_o : T_law03_told) (K : Bool → Heap → Prop) (H : Heap) : Prop :=
  nw (T_law03_told.c p_t) (fun b1 H2 =>
 nw (T_law03_told.c p_o) (fun b3 H4 =>
 ldI H4 .i64 ((b1, 0).1, (b1, 0).2 + 0) fun x5 =>
 ldI H4 .i64 ((b3, 0).1, (b3, 0).2 + 0) fun x7 =>
 jn (α := Bool) (fun b9 H17 =>
 jn (α := Bool) (fun b18 H26 =>
 jn (α := Bool) (fun b27 H37 =>
 K b27 H37)
 (fun J28 => ift b18
 (ldT H26 T_api_Value.c ((b1, 0).1, (b1, 0).2 + 2) fun x31 =>
 ldT H26 T_api_Value.c ((b3, 0).1, (b3, 0).2 + 2) fun x33 =>
 c_ref02_Same C x31 x33 (fun r35 H36 =>
 J28 r35 H36) H26)
 (J28 false H26)))
 (fun J19 => ift b9
 (ldB H17 ((b1, 0).1, (b1, 0).2 + 6) fun x22 =>
 ldB H17 ((b3, 0).1, (b3, 0).2 + 6) fun x24 =>
 J19 (x22 == x24) H17)
 (J19 false H17)))
 (fun J10 => ift ((x5 : Int) == x7)
 (ldS H4 ((b1, 0).1, (b1, 0).2 + 1) fun x13 =>
 ldS H4 ((b3, 0).1, (b3, 0).2 + 1) fun x15 =>
 J10 (x13 == x15) H4)
 (J10 false H4))) H2) H

theorem ad_law03_told_same (C : Ctx) (p_t : T_law03_told) (p_o : T_law03_told) (K : Bool → Heap → Prop) (H : Heap) (h : sh_law03_told_same C p_t p_o K H) : c_law03_told_same C p_t p_o K H := by
  refine Spec.enter Tryd.func31 rfl Tryd.ntmps31 rfl ?_
  refine GC.sub [(0, .agg (T_law03_told.c p_t).toArray), (1, .agg (T_law03_told.c p_o).toArray)] ⟨rfl, rfl, trivial⟩ ?_
  refine GC.seq ?_
  refine GC.region ?_
  refine GL.box (v := .agg (T_law03_told.c p_t).toArray) (cs := T_law03_told.c p_t) h trivial rfl rfl rfl ?_
  intro b1 H2 h
  refine GL.box (v := .agg (T_law03_told.c p_o).toArray) (cs := T_law03_told.c p_o) h trivial rfl rfl rfl ?_
  intro b3 H4 h
  refine GL.val trivial rfl (OV.assign (v := .bool false) rfl) ?_
  refine GL.nil ?_
  refine GC.seq ?_
  refine GC.region ?_
  refine GL.val trivial rfl (OV.fieldAddr (p := (b1, 0)) rfl rfl) ?_
  obtain ⟨x5, hr6, h⟩ := h
  refine GL.val trivial rfl (OV.load (p := ((b1, 0).1, (b1, 0).2 + 0)) rfl rfl hr6) ?_
  refine GL.val trivial rfl (OV.fieldAddr (p := (b3, 0)) rfl rfl) ?_
  obtain ⟨x7, hr8, h⟩ := h
  refine GL.val trivial rfl (OV.load (p := ((b3, 0).1, (b3, 0).2 + 0)) rfl rfl hr8) ?_
  refine GL.val trivial rfl (OV.ibin (v := .bool ((x5 : Int) == x7)) rfl rfl rfl) ?_
  refine GL.val trivial rfl (OV.move (v := .bool ((x5 : Int) == x7)) rfl) ?_
  obtain ⟨J10, h, hR11⟩ := h
  refine GL.cut (α := Bool) 6 J10 (fun b9 => [(16, .bool b9), (2, pv (some (b1, 0))), (3, pv (some (b3, 0)))]) ?_ ?_
  · rcases Bool.eq_false_or_eq_true ((x5 : Int) == x7) with hc12 | hc12
    · skip
      replace h := And.left h hc12
      refine GL.val ⟨_, _, rfl, rfl, hc12⟩ rfl (OV.fieldAddr (p := (b1, 0)) rfl rfl) ?_
      obtain ⟨x13, hr14, h⟩ := h
      refine GL.val ⟨_, _, rfl, rfl, hc12⟩ rfl (OV.load (p := ((b1, 0).1, (b1, 0).2 + 1)) rfl rfl hr14) ?_
      refine GL.val ⟨_, _, rfl, rfl, hc12⟩ rfl (OV.fieldAddr (p := (b3, 0)) rfl rfl) ?_
      obtain ⟨x15, hr16, h⟩ := h
      refine GL.val ⟨_, _, rfl, rfl, hc12⟩ rfl (OV.load (p := ((b3, 0).1, (b3, 0).2 + 1)) rfl rfl hr16) ?_
      refine GL.val ⟨_, _, rfl, rfl, hc12⟩ rfl (OV.sbin (a := x13) (b := x15) (v := .bool (x13 == x15)) rfl rfl rfl) ?_
      refine GL.val trivial rfl (OV.pickT (b := (x5 : Int) == x7) (v := .bool (x13 == x15)) rfl hc12 rfl) ?_
      exact GL.jump (fun _ _ h => h) (x13 == x15) h ⟨rfl, rfl, rfl, trivial⟩
    · skip
      replace h := And.right h hc12
      refine GL.skip ⟨_, rfl, .inl ⟨_, rfl, hc12⟩⟩ rfl ?_
      refine GL.skip ⟨_, rfl, .inl ⟨_, rfl, hc12⟩⟩ rfl ?_
      refine GL.skip ⟨_, rfl, .inl ⟨_, rfl, hc12⟩⟩ rfl ?_
      refine GL.skip ⟨_, rfl, .inl ⟨_, rfl, hc12⟩⟩ rfl ?_
      refine GL.skip ⟨_, rfl, .inl ⟨_, rfl, hc12⟩⟩ rfl ?_
      refine GL.val trivial rfl (OV.pickF (b := (x5 : Int) == x7) (v := .bool false) rfl hc12 rfl) ?_
      exact GL.jump (fun _ _ h => h) false h ⟨rfl, rfl, rfl, trivial⟩
  intro b9 H17 h
  replace h := hR11 b9 H17 h
  refine GL.val trivial rfl (OV.move (v := .bool b9) rfl) ?_
  obtain ⟨J19, h, hR20⟩ := h
  refine GL.cut (α := Bool) 6 J19 (fun b18 => [(23, .bool b18), (2, pv (some (b1, 0))), (3, pv (some (b3, 0)))]) ?_ ?_
  · rcases Bool.eq_false_or_eq_true b9 with hc21 | hc21
    · skip
      replace h := And.left h hc21
      refine GL.val ⟨_, _, rfl, rfl, hc21⟩ rfl (OV.fieldAddr (p := (b1, 0)) rfl rfl) ?_
      obtain ⟨x22, hr23, h⟩ := h
      refine GL.val ⟨_, _, rfl, rfl, hc21⟩ rfl (OV.load (p := ((b1, 0).1, (b1, 0).2 + 6)) rfl rfl hr23) ?_
      refine GL.val ⟨_, _, rfl, rfl, hc21⟩ rfl (OV.fieldAddr (p := (b3, 0)) rfl rfl) ?_
      obtain ⟨x24, hr25, h⟩ := h
      refine GL.val ⟨_, _, rfl, rfl, hc21⟩ rfl (OV.load (p := ((b3, 0).1, (b3, 0).2 + 6)) rfl rfl hr25) ?_
      refine GL.val ⟨_, _, rfl, rfl, hc21⟩ rfl (OV.eqlBool rfl rfl rfl) ?_
      refine GL.val trivial rfl (OV.pickT (b := b9) (v := .bool (x22 == x24)) rfl hc21 rfl) ?_
      exact GL.jump (fun _ _ h => h) (x22 == x24) h ⟨rfl, rfl, rfl, trivial⟩
    · skip
      replace h := And.right h hc21
      refine GL.skip ⟨_, rfl, .inl ⟨_, rfl, hc21⟩⟩ rfl ?_
      refine GL.skip ⟨_, rfl, .inl ⟨_, rfl, hc21⟩⟩ rfl ?_
      refine GL.skip ⟨_, rfl, .inl ⟨_, rfl, hc21⟩⟩ rfl ?_
      refine GL.skip ⟨_, rfl, .inl ⟨_, rfl, hc21⟩⟩ rfl ?_
      refine GL.skip ⟨_, rfl, .inl ⟨_, rfl, hc21⟩⟩ rfl ?_
      refine GL.val trivial rfl (OV.pickF (b := b9) (v := .bool false) rfl hc21 rfl) ?_
      exact GL.jump (fun _ _ h => h) false h ⟨rfl, rfl, rfl, trivial⟩
  intro b18 H26 h
  replace h := hR20 b18 H26 h
  refine GL.val trivial rfl (OV.move (v := .bool b18) rfl) ?_
  obtain ⟨J28, h, hR29⟩ := h
  refine GL.cut (α := Bool) 6 J28 (fun b27 => [(30, .bool b27)]) ?_ ?_
  · rcases Bool.eq_false_or_eq_true b18 with hc30 | hc30
    · skip
      replace h := And.left h hc30
      refine GL.val ⟨_, _, rfl, rfl, hc30⟩ rfl (OV.fieldAddr (p := (b1, 0)) rfl rfl) ?_
      obtain ⟨x31, hr32, h⟩ := h
      refine GL.val ⟨_, _, rfl, rfl, hc30⟩ rfl (OV.loadT (p := ((b1, 0).1, (b1, 0).2 + 2)) (cs := T_api_Value.c x31) rfl rfl rfl hr32) ?_
      refine GL.val ⟨_, _, rfl, rfl, hc30⟩ rfl (OV.fieldAddr (p := (b3, 0)) rfl rfl) ?_
      obtain ⟨x33, hr34, h⟩ := h
      refine GL.val ⟨_, _, rfl, rfl, hc30⟩ rfl (OV.loadT (p := ((b3, 0).1, (b3, 0).2 + 2)) (cs := T_api_Value.c x33) rfl rfl rfl hr34) ?_
      refine GL.call h ⟨_, _, rfl, rfl, hc30⟩ rfl ok_ref02_Same (vs := [.agg (T_api_Value.c x31).toArray, .agg (T_api_Value.c x33).toArray]) rfl ?_
      rintro _ H36 ⟨r35, rfl, h⟩
      refine GL.val trivial rfl (OV.pickT (b := b18) (v := .bool r35) rfl hc30 rfl) ?_
      exact GL.jump (fun _ _ h => h) r35 h ⟨rfl, trivial⟩
    · skip
      replace h := And.right h hc30
      refine GL.skip ⟨_, rfl, .inl ⟨_, rfl, hc30⟩⟩ rfl ?_
      refine GL.skip ⟨_, rfl, .inl ⟨_, rfl, hc30⟩⟩ rfl ?_
      refine GL.skip ⟨_, rfl, .inl ⟨_, rfl, hc30⟩⟩ rfl ?_
      refine GL.skip ⟨_, rfl, .inl ⟨_, rfl, hc30⟩⟩ rfl ?_
      refine GL.skip ⟨_, rfl, .inl ⟨_, rfl, hc30⟩⟩ rfl ?_
      refine GL.val trivial rfl (OV.pickF (b := b18) (v := .bool false) rfl hc30 rfl) ?_
      exact GL.jump (fun _ _ h => h) false h ⟨rfl, trivial⟩
  intro b27 H37 h
  replace h := hR29 b27 H37 h
  refine GL.val trivial rfl (OV.assign (v := .bool b27) rfl) ?_
  refine GL.nil ?_
  exact GC.ret (fun _ _ hf hs => post_tmp1 rfl rfl hf hs ⟨b27, rfl, h⟩)

def sh_code_Reader_Done (C : Ctx) (p_r : Option (Nat × Nat)) (K : Bool → Heap → Prop) (H : Heap) : Prop :=
  c_code_Reader_OK C p_r (fun r1 H2 =>
 jn (α := Bool) (fun b3 H9 =>
 K b3 H9)
 (fun J4 => ift r1
 (c_code_Reader_Left C p_r (fun r7 H8 =>
 J4 ((r7 : Int) == 0) H8) H2)
 (J4 false H2))) H

theorem ad_code_Reader_Done (C : Ctx) (p_r : Option (Nat × Nat)) (K : Bool → Heap → Prop) (H : Heap) (h : sh_code_Reader_Done C p_r K H) : c_code_Reader_Done C p_r K H := by
  refine Spec.enter Tryd.func32 rfl Tryd.ntmps32 rfl ?_
  refine GC.sub [(0, pv p_r)] ⟨rfl, trivial⟩ ?_
  refine GC.seq ?_
  refine GC.region ?_
  refine GL.val trivial rfl (OV.assign (v := .bool false) rfl) ?_
  refine GL.nil ?_
  refine GC.seq ?_
  refine GC.region ?_
  refine GL.val trivial rfl (OV.move (v := pv p_r) rfl) ?_
  refine GL.call h trivial rfl ok_code_Reader_OK (vs := [pv p_r]) rfl ?_
  rintro _ H2 ⟨r1, rfl, h⟩
  refine GL.val trivial rfl (OV.move (v := .bool r1) rfl) ?_
  obtain ⟨J4, h, hR5⟩ := h
  refine GL.cut (α := Bool) 4 J4 (fun b3 => [(9, .bool b3)]) ?_ ?_
  · rcases Bool.eq_false_or_eq_true r1 with hc6 | hc6
    · skip
      replace h := And.left h hc6
      refine GL.val ⟨_, _, rfl, rfl, hc6⟩ rfl (OV.move (v := pv p_r) rfl) ?_
      refine GL.call h ⟨_, _, rfl, rfl, hc6⟩ rfl ok_code_Reader_Left (vs := [pv p_r]) rfl ?_
      rintro _ H8 ⟨r7, rfl, h⟩
      refine GL.val ⟨_, _, rfl, rfl, hc6⟩ rfl (OV.ibin (v := .bool ((r7 : Int) == 0)) rfl rfl rfl) ?_
      refine GL.val trivial rfl (OV.pickT (b := r1) (v := .bool ((r7 : Int) == 0)) rfl hc6 rfl) ?_
      exact GL.jump (fun _ _ h => h) ((r7 : Int) == 0) h ⟨rfl, trivial⟩
    · skip
      replace h := And.right h hc6
      refine GL.skip ⟨_, rfl, .inl ⟨_, rfl, hc6⟩⟩ rfl ?_
      refine GL.skip ⟨_, rfl, .inl ⟨_, rfl, hc6⟩⟩ rfl ?_
      refine GL.skip ⟨_, rfl, .inl ⟨_, rfl, hc6⟩⟩ rfl ?_
      refine GL.val trivial rfl (OV.pickF (b := r1) (v := .bool false) rfl hc6 rfl) ?_
      exact GL.jump (fun _ _ h => h) false h ⟨rfl, trivial⟩
  intro b3 H9 h
  replace h := hR5 b3 H9 h
  refine GL.val trivial rfl (OV.assign (v := .bool b3) rfl) ?_
  refine GL.nil ?_
  exact GC.ret (fun _ _ hf hs => post_tmp1 rfl rfl hf hs ⟨b3, rfl, h⟩)

def sh_code_Reader_Num (C : Ctx) (p_r : Option (Nat × Nat)) (K : Int → Heap → Prop) (H : Heap) : Prop :=
  ift (Option.isNone p_r)
 (K 0 H)
 (c_code_Reader_next C p_r (fun r2 H3 =>
 jn (α := Int) (fun x5 H6 =>
 c_code_Reader_flip C p_r (decide ((r2 : Int) < 128)) (fun H9 =>
 c_code_Reader_number C p_r (w .i64 ((w .i64 x5) - 128)) 8 (fun r10 H11 =>
 c_code_Reader_flip C p_r (decide ((r2 : Int) < 128)) (fun H12 =>
 c_code_Reader_ask C p_r (decide ((r10 : Int) ≤ 9223372036854775807)) (fun r13 H14 =>
 ift (!r13)
 (K 0 H14)
 (ift (decide ((r2 : Int) < 128))
 (K (bXor .i64 (-1) (w .i64 r10)) H14)
 (K (w .i64 r10) H14))) H12) H11) H9) H6)
 (fun J4 => ift (decide ((r2 : Int) < 128))
 (J4 (bXor .u8 (255) r2) H3)
 (J4 r2 H3))) H)

theorem ad_code_Reader_Num (C : Ctx) (p_r : Option (Nat × Nat)) (K : Int → Heap → Prop) (H : Heap) (h : sh_code_Reader_Num C p_r K H) : c_code_Reader_Num C p_r K H := by
  refine Spec.enter Tryd.func33 rfl Tryd.ntmps33 rfl ?_
  refine GC.sub [(0, pv p_r)] ⟨rfl, trivial⟩ ?_
  refine GC.seq ?_
  refine GC.region ?_
  refine GL.val trivial rfl (OV.assign (v := .int .i64 0) rfl) ?_
  refine GL.nil ?_
  refine GC.seq ?_
  refine GC.seq ?_
  refine GC.region ?_
  refine GL.val trivial rfl (OV.move (v := pv p_r) rfl) ?_
  refine GL.val trivial rfl (OV.eqlNil (p := p_r) rfl rfl rfl) ?_
  refine GL.nil ?_
  refine GC.cond (b := Option.isNone p_r) rfl (fun hc1 => ?_) (fun hc1 => ?_)
  · replace h := And.left h hc1
    refine GC.seq ?_
    refine GC.region ?_
    refine GL.val trivial rfl (OV.assign (v := .int .i64 0) rfl) ?_
    refine GL.nil ?_
    exact GC.ret (fun _ _ hf hs => post_tmp1 rfl rfl hf hs ⟨0, rfl, h⟩)
  · replace h := And.right h hc1
    refine GC.skip ?_
    refine GC.seq ?_
    refine GC.region ?_
    refine GL.val trivial rfl (OV.move (v := pv p_r) rfl) ?_
    refine GL.call h trivial rfl ok_code_Reader_next (vs := [pv p_r]) rfl ?_
    rintro _ H3 ⟨r2, rfl, h⟩
    refine GL.val trivial rfl (OV.assign (v := .int .u8 r2) rfl) ?_
    refine GL.nil ?_
    refine GC.seq ?_
    refine GC.region ?_
    refine GL.val trivial rfl (OV.move (v := .int .u8 r2) rfl) ?_
    refine GL.val trivial rfl (OV.ibin (v := .bool (decide ((r2 : Int) < 128))) rfl rfl rfl) ?_
    refine GL.val trivial rfl (OV.assign (v := .bool (decide ((r2 : Int) < 128))) rfl) ?_
    refine GL.nil ?_
    obtain ⟨J4, h, hR7⟩ := h
    refine GC.join (α := Int) J4 (fun x5 => [(3, .int .u8 x5), (0, pv p_r), (4, .bool (decide ((r2 : Int) < 128)))]) ?_ ?_
    · skip
      refine GC.seq ?_
      refine GC.region ?_
      refine GL.val trivial rfl (OV.move (v := .bool (decide ((r2 : Int) < 128))) rfl) ?_
      refine GL.nil ?_
      refine GC.cond (b := decide ((r2 : Int) < 128)) rfl (fun hc8 => ?_) (fun hc8 => ?_)
      · replace h := And.left h hc8
        refine GC.region ?_
        refine GL.val trivial rfl (OV.move (v := .int .u8 r2) rfl) ?_
        refine GL.val trivial rfl (OV.iun (v := .int .u8 (bXor .u8 (255) r2)) rfl rfl) ?_
        refine GL.val trivial rfl (OV.assign (v := .int .u8 (bXor .u8 (255) r2)) rfl) ?_
        exact GL.jump (fun _ _ h => h) (bXor .u8 (255) r2) h ⟨rfl, rfl, rfl, trivial⟩
      · replace h := And.right h hc8
        exact GC.jump (fun _ _ h => h) r2 h ⟨rfl, rfl, rfl, trivial⟩
    · intro x5 H6 h
      replace h := hR7 x5 H6 h
      refine GC.seq ?_
      refine GC.region ?_
      refine GL.val trivial rfl (OV.move (v := pv p_r) rfl) ?_
      refine GL.val trivial rfl (OV.move (v := .bool (decide ((r2 : Int) < 128))) rfl) ?_
      refine GL.call h trivial rfl ok_code_Reader_flip (vs := [pv p_r, .bool (decide ((r2 : Int) < 128))]) rfl ?_
      rintro _ H9 ⟨rfl, h⟩
      refine GL.nil ?_
      refine GC.seq ?_
      refine GC.region ?_
      refine GL.val trivial rfl (OV.move (v := pv p_r) rfl) ?_
      refine GL.val trivial rfl (OV.move (v := .int .u8 x5) rfl) ?_
      refine GL.val trivial rfl (OV.convInt rfl rfl rfl) ?_
      refine GL.val trivial rfl (OV.ibin (v := .int .i64 (w .i64 ((w .i64 x5) - 128))) rfl rfl rfl) ?_
      refine GL.call h trivial rfl ok_code_Reader_number (vs := [pv p_r, .int .i64 (w .i64 ((w .i64 x5) - 128)), .int .i64 8]) rfl ?_
      rintro _ H11 ⟨r10, rfl, h⟩
      refine GL.val trivial rfl (OV.assign (v := .int .u64 r10) rfl) ?_
      refine GL.nil ?_
      refine GC.seq ?_
      refine GC.region ?_
      refine GL.val trivial rfl (OV.move (v := pv p_r) rfl) ?_
      refine GL.val trivial rfl (OV.move (v := .bool (decide ((r2 : Int) < 128))) rfl) ?_
      refine GL.call h trivial rfl ok_code_Reader_flip (vs := [pv p_r, .bool (decide ((r2 : Int) < 128))]) rfl ?_
      rintro _ H12 ⟨rfl, h⟩
      refine GL.nil ?_
      refine GC.seq ?_
      refine GC.block ?_
      refine GC.seq ?_
      refine GC.region ?_
      refine GL.val trivial rfl (OV.move (v := pv p_r) rfl) ?_
      refine GL.val trivial rfl (OV.move (v := .int .u64 r10) rfl) ?_
      refine GL.val trivial rfl (OV.ibin (v := .bool (decide ((r10 : Int) ≤ 9223372036854775807))) rfl rfl rfl) ?_
      refine GL.call h trivial rfl ok_code_Reader_ask (vs := [pv p_r, .bool (decide ((r10 : Int) ≤ 9223372036854775807))]) rfl ?_
      rintro _ H14 ⟨r13, rfl, h⟩
      refine GL.val trivial rfl (OV.not rfl) ?_
      refine GL.val trivial rfl (OV.assign (v := .bool (!r13)) rfl) ?_
      refine GL.nil ?_
      refine GC.cond (b := !r13) rfl (fun hc15 => ?_) (fun hc15 => ?_)
      · replace h := And.left h hc15
        refine GC.seq ?_
        refine GC.region ?_
        refine GL.val trivial rfl (OV.assign (v := .int .i64 0) rfl) ?_
        refine GL.nil ?_
        exact GC.ret (fun _ _ hf hs => post_tmp1 rfl rfl hf hs ⟨0, rfl, h⟩)
      · replace h := And.right h hc15
        refine GC.seq ?_
        refine GC.region ?_
        refine GL.val trivial rfl (OV.move (v := .bool (decide ((r2 : Int) < 128))) rfl) ?_
        refine GL.val trivial rfl (OV.assign (v := .bool (decide ((r2 : Int) < 128))) rfl) ?_
        refine GL.nil ?_
        refine GC.cond (b := decide ((r2 : Int) < 128)) rfl (fun hc16 => ?_) (fun hc16 => ?_)
        · replace h := And.left h hc16
          refine GC.seq ?_
          refine GC.region ?_
          refine GL.val trivial rfl (OV.move (v := .int .u64 r10) rfl) ?_
          refine GL.val trivial rfl (OV.convInt rfl rfl rfl) ?_
          refine GL.val trivial rfl (OV.iun (v := .int .i64 (bXor .i64 (-1) (w .i64 r10))) rfl rfl) ?_
          refine GL.val trivial rfl (OV.assign (v := .int .i64 (bXor .i64 (-1) (w .i64 r10))) rfl) ?_
          refine GL.nil ?_
          exact GC.ret (fun _ _ hf hs => post_tmp1 rfl rfl hf hs ⟨(bXor .i64 (-1) (w .i64 r10)), rfl, h⟩)
        · replace h := And.right h hc16
          refine GC.skip_to (fun _ _ h => h) ?_
          refine GC.seq ?_
          refine GC.region ?_
          refine GL.val trivial rfl (OV.move (v := .int .u64 r10) rfl) ?_
          refine GL.val trivial rfl (OV.convInt rfl rfl rfl) ?_
          refine GL.val trivial rfl (OV.assign (v := .int .i64 (w .i64 r10)) rfl) ?_
          refine GL.nil ?_
          exact GC.ret (fun _ _ hf hs => post_tmp1 rfl rfl hf hs ⟨(w .i64 r10), rfl, h⟩)

def sh_code_Reader_Str (C : Ctx) (p_r : Option (Nat × Nat)) (p_most : Int) (K : Str → Heap → Prop) (H : Heap) : Prop :=
  jn (α := Unit) (fun x2 H3 =>
 K [] H3)
 (fun J1 => lp (α := Sl) Sl.nil H (fun x5 J6 H7 =>
 jn (α := Bool) (fun b8 H14 =>
 ift b8
 (c_code_Reader_next C p_r (fun r16 H17 =>
 jn (α := Unit) (fun x19 H20 =>
 apd ([.int .u8 0]) 1 x5 ([.int .u8 r16]) 1 (fun r33 H34 =>
 J6 r33 H34) H20)
 (fun J18 => ift ((r16 : Int) == 0)
 (c_code_Reader_next C p_r (fun r23 H24 =>
 c_code_Reader_ask C p_r (((r23 : Int) == 0) || ((r23 : Int) == 255)) (fun r26 H27 =>
 ift (!r26)
 (J1 () H27)
 (ift ((r23 : Int) == 0)
 (b2s x5 (fun t30 =>
 K t30 H27) H27)
 (J18 () H27))) H24) H17)
 (J18 () H17))) H14)
 (J1 () H14))
 (fun J9 => ift (!(Option.isNone p_r))
 (c_code_Reader_ask C p_r (decide (((Sl.len x5 : Int) : Int) ≤ p_most)) (fun r12 H13 =>
 J9 r12 H13) H7)
 (J9 false H7))))

theorem ad_code_Reader_Str (C : Ctx) (p_r : Option (Nat × Nat)) (p_most : Int) (K : Str → Heap → Prop) (H : Heap) (h : sh_code_Reader_Str C p_r p_most K H) : c_code_Reader_Str C p_r p_most K H := by
  refine Spec.enter Tryd.func34 rfl Tryd.ntmps34 rfl ?_
  refine GC.sub [(0, pv p_r), (1, .int .i64 p_most)] ⟨rfl, rfl, trivial⟩ ?_
  refine GC.seq ?_
  refine GC.region ?_
  refine GL.val trivial rfl (OV.assign (v := sv []) rfl) ?_
  refine GL.nil ?_
  refine GC.seq ?_
  refine GC.region ?_
  refine GL.val trivial rfl (OV.assign (v := slv Sl.nil) rfl) ?_
  refine GL.nil ?_
  obtain ⟨J1, h, hR4⟩ := h
  refine GC.join (α := Unit) J1 (fun _ => []) ?_ ?_
  · skip
    refine GC.block ?_
    refine GC.loop (α := Sl) h (fun x5 => [(5, slv x5), (0, pv p_r), (1, .int .i64 p_most)]) ⟨rfl, rfl, rfl, trivial⟩ ?_
    intro x5 H7 J6 h
    refine GC.seq ?_
    refine GC.seq ?_
    refine GC.region ?_
    refine GL.val trivial rfl (OV.move (v := pv p_r) rfl) ?_
    refine GL.val trivial rfl (OV.neqNil (p := p_r) rfl rfl rfl) ?_
    refine GL.val trivial rfl (OV.move (v := .bool (!(Option.isNone p_r))) rfl) ?_
    obtain ⟨J9, h, hR10⟩ := h
    refine GL.cut (α := Bool) 7 J9 (fun b8 => [(17, .bool b8), (0, pv p_r), (1, .int .i64 p_most), (5, slv x5)]) ?_ ?_
    · rcases Bool.eq_false_or_eq_true (!(Option.isNone p_r)) with hc11 | hc11
      · skip
        replace h := And.left h hc11
        refine GL.val ⟨_, _, rfl, rfl, hc11⟩ rfl (OV.move (v := pv p_r) rfl) ?_
        refine GL.val ⟨_, _, rfl, rfl, hc11⟩ rfl (OV.move (v := slv x5) rfl) ?_
        refine GL.val ⟨_, _, rfl, rfl, hc11⟩ rfl (OV.lenSl (s := x5) rfl rfl) ?_
        refine GL.val ⟨_, _, rfl, rfl, hc11⟩ rfl (OV.move (v := .int .i64 p_most) rfl) ?_
        refine GL.val ⟨_, _, rfl, rfl, hc11⟩ rfl (OV.ibin (v := .bool (decide (((Sl.len x5 : Int) : Int) ≤ p_most))) rfl rfl rfl) ?_
        refine GL.call h ⟨_, _, rfl, rfl, hc11⟩ rfl ok_code_Reader_ask (vs := [pv p_r, .bool (decide (((Sl.len x5 : Int) : Int) ≤ p_most))]) rfl ?_
        rintro _ H13 ⟨r12, rfl, h⟩
        refine GL.val trivial rfl (OV.pickT (b := !(Option.isNone p_r)) (v := .bool r12) rfl hc11 rfl) ?_
        exact GL.jump (fun _ _ h => h) r12 h ⟨rfl, rfl, rfl, rfl, trivial⟩
      · skip
        replace h := And.right h hc11
        refine GL.skip ⟨_, rfl, .inl ⟨_, rfl, hc11⟩⟩ rfl ?_
        refine GL.skip ⟨_, rfl, .inl ⟨_, rfl, hc11⟩⟩ rfl ?_
        refine GL.skip ⟨_, rfl, .inl ⟨_, rfl, hc11⟩⟩ rfl ?_
        refine GL.skip ⟨_, rfl, .inl ⟨_, rfl, hc11⟩⟩ rfl ?_
        refine GL.skip ⟨_, rfl, .inl ⟨_, rfl, hc11⟩⟩ rfl ?_
        refine GL.skip ⟨_, rfl, .inl ⟨_, rfl, hc11⟩⟩ rfl ?_
        refine GL.val trivial rfl (OV.pickF (b := !(Option.isNone p_r)) (v := .bool false) rfl hc11 rfl) ?_
        exact GL.jump (fun _ _ h => h) false h ⟨rfl, rfl, rfl, rfl, trivial⟩
    intro b8 H14 h
    replace h := hR10 b8 H14 h
    refine GL.nil ?_
    refine GC.cond (b := b8) rfl (fun hc15 => ?_) (fun hc15 => ?_)
    · replace h := And.left h hc15
      refine GC.skip ?_
      refine GC.block ?_
      refine GC.seq ?_
      refine GC.region ?_
      refine GL.val trivial rfl (OV.move (v := pv p_r) rfl) ?_
      refine GL.call h trivial rfl ok_code_Reader_next (vs := [pv p_r]) rfl ?_
      rintro _ H17 ⟨r16, rfl, h⟩
      refine GL.val trivial rfl (OV.assign (v := .int .u8 r16) rfl) ?_
      refine GL.nil ?_
      obtain ⟨J18, h, hR21⟩ := h
      refine GC.join (α := Unit) J18 (fun _ => [(0, pv p_r), (1, .int .i64 p_most), (5, slv x5), (6, .int .u8 r16)]) ?_ ?_
      · skip
        refine GC.seq ?_
        refine GC.region ?_
        refine GL.val trivial rfl (OV.move (v := .int .u8 r16) rfl) ?_
        refine GL.val trivial rfl (OV.ibin (v := .bool ((r16 : Int) == 0)) rfl rfl rfl) ?_
        refine GL.nil ?_
        refine GC.cond (b := (r16 : Int) == 0) rfl (fun hc22 => ?_) (fun hc22 => ?_)
        · replace h := And.left h hc22
          refine GC.seq ?_
          refine GC.region ?_
          refine GL.val trivial rfl (OV.move (v := pv p_r) rfl) ?_
          refine GL.call h trivial rfl ok_code_Reader_next (vs := [pv p_r]) rfl ?_
          rintro _ H24 ⟨r23, rfl, h⟩
          refine GL.val trivial rfl (OV.assign (v := .int .u8 r23) rfl) ?_
          refine GL.nil ?_
          refine GC.seq ?_
          refine GC.seq ?_
          refine GC.region ?_
          refine GL.val trivial rfl (OV.move (v := pv p_r) rfl) ?_
          refine GL.val trivial rfl (OV.move (v := .int .u8 r23) rfl) ?_
          refine GL.val trivial rfl (OV.ibin (v := .bool ((r23 : Int) == 0)) rfl rfl rfl) ?_
          refine GL.val trivial rfl (OV.move (v := .bool ((r23 : Int) == 0)) rfl) ?_
          refine GL.cut0 3 [(30, .bool (((r23 : Int) == 0) || ((r23 : Int) == 255))), (0, pv p_r), (1, .int .i64 p_most), (5, slv x5), (6, .int .u8 r16), (7, .int .u8 r23), (24, pv p_r)] ?_ ?_
          · rcases Bool.eq_false_or_eq_true ((r23 : Int) == 0) with hc25 | hc25
            · skip
              refine GL.skip ⟨_, rfl, .inl ⟨_, rfl, hc25⟩⟩ rfl ?_
              refine GL.skip ⟨_, rfl, .inl ⟨_, rfl, hc25⟩⟩ rfl ?_
              refine GL.val trivial rfl (OV.pickT (b := (r23 : Int) == 0) (v := .bool true) rfl hc25 rfl) ?_
              exact GL.jump0 (fun _ _ h => h) () rfl ⟨(by rw [hc25]; rfl), rfl, rfl, rfl, rfl, rfl, rfl, trivial⟩
            · skip
              refine GL.val ⟨_, _, rfl, rfl, hc25⟩ rfl (OV.move (v := .int .u8 r23) rfl) ?_
              refine GL.val ⟨_, _, rfl, rfl, hc25⟩ rfl (OV.ibin (v := .bool ((r23 : Int) == 255)) rfl rfl rfl) ?_
              refine GL.val trivial rfl (OV.pickF (b := (r23 : Int) == 0) (v := .bool ((r23 : Int) == 255)) rfl hc25 rfl) ?_
              exact GL.jump0 (fun _ _ h => h) () rfl ⟨(by rw [hc25]; rfl), rfl, rfl, rfl, rfl, rfl, rfl, trivial⟩
          refine GL.call h trivial rfl ok_code_Reader_ask (vs := [pv p_r, .bool (((r23 : Int) == 0) || ((r23 : Int) == 255))]) rfl ?_
          rintro _ H27 ⟨r26, rfl, h⟩
          refine GL.val trivial rfl (OV.not rfl) ?_
          refine GL.nil ?_
          refine GC.cond (b := !r26) rfl (fun hc28 => ?_) (fun hc28 => ?_)
          · replace h := And.left h hc28
            exact GC.exit_jump (fun _ _ h => h) () h trivial
          · replace h := And.right h hc28
            refine GC.skip ?_
            refine GC.seq ?_
            refine GC.region ?_
            refine GL.val trivial rfl (OV.move (v := .int .u8 r23) rfl) ?_
            refine GL.val trivial rfl (OV.ibin (v := .bool ((r23 : Int) == 0)) rfl rfl rfl) ?_
            refine GL.nil ?_
            refine GC.cond (b := (r23 : Int) == 0) rfl (fun hc29 => ?_) (fun hc29 => ?_)
            · replace h := And.left h hc29
              refine GC.seq ?_
              refine GC.region ?_
              refine GL.val trivial rfl (OV.move (v := slv x5) rfl) ?_
              obtain ⟨t30, h31, h32, h⟩ := h
              refine GL.val trivial rfl (OV.b2s (b := x5) (s := t30) h31 h32 rfl rfl rfl rfl) ?_
              refine GL.val trivial rfl (OV.assign (v := sv t30) rfl) ?_
              refine GL.nil ?_
              exact GC.ret (fun _ _ hf hs => post_tmp1 rfl rfl hf hs ⟨t30, rfl, h⟩)
            · replace h := And.right h hc29
              exact GC.jump (fun _ _ h => h) () h ⟨rfl, rfl, rfl, rfl, trivial⟩
        · replace h := And.right h hc22
          exact GC.jump (fun _ _ h => h) () h ⟨rfl, rfl, rfl, rfl, trivial⟩
      · intro x19 H20 h
        replace h := hR21 x19 H20 h
        refine GC.region ?_
        refine GL.val trivial rfl (OV.move (v := slv x5) rfl) ?_
        refine GL.val trivial rfl (OV.move (v := .int .u8 r16) rfl) ?_
        refine GL.appendLit (s := x5) (ys := [.int .u8 r16]) (zc := [.int .u8 0]) (bytes := 1) h trivial rfl (fun _ => trivial) rfl (fun _ => rfl) (fun _ => rfl) (vs := [(0, .int .u8 r16)]) rfl ⟨5, fun _ => by kernel_rfl⟩ ⟨⟨_, _, _, rfl, rfl, rfl, rfl, rfl, rfl⟩⟩ rfl rfl ?_
        intro _ r33 H34 h
        refine GL.val trivial rfl (OV.assign (v := slv r33) rfl) ?_
        exact GL.jump (fun _ _ h => h) r33 h ⟨rfl, rfl, rfl, trivial⟩
    · replace h := And.right h hc15
      exact GC.exit_jump (fun _ _ h => h) () h trivial
  · intro x2 H3 h
    replace h := hR4 x2 H3 h
    refine GC.seq ?_
    refine GC.region ?_
    refine GL.val trivial rfl (OV.assign (v := sv []) rfl) ?_
    refine GL.nil ?_
    exact GC.ret (fun _ _ hf hs => post_tmp1 rfl rfl hf hs ⟨[], rfl, h⟩)

def sh_law03_tuple (C : Ctx) (p_l : Sl) (K : T_api_Value → Heap → Prop) (H : Heap) : Prop :=
  nw (T_api_Value.c T_api_Value.zero) (fun b1 H2 =>
 stT (b1, 0) (T_api_Value.c (⟨5, 0, [], p_l⟩ : T_api_Value)) (fun H3 =>
 ldT H3 T_api_Value.c (b1, 0) fun x4 =>
 K x4 H3) H2) H

theorem ad_law03_tuple (C : Ctx) (p_l : Sl) (K : T_api_Value → Heap → Prop) (H : Heap) (h : sh_law03_tuple C p_l K H) : c_law03_tuple C p_l K H := by
  refine Spec.enter Tryd.func35 rfl Tryd.ntmps35 rfl ?_
  refine GC.sub [(0, slv p_l)] ⟨rfl, trivial⟩ ?_
  refine GC.seq ?_
  refine GC.region ?_
  refine GL.alloc (cs := T_api_Value.c T_api_Value.zero) h trivial rfl rfl rfl ?_
  intro b1 H2 h
  refine GL.nil ?_
  refine GC.seq ?_
  refine GC.region ?_
  refine GL.val trivial rfl (OV.move (v := slv p_l) rfl) ?_
  refine GL.val trivial rfl (OV.build (vs := [(0, .int .u8 5), (3, slv p_l)]) (v := .agg (T_api_Value.c (⟨5, 0, [], p_l⟩ : T_api_Value)).toArray) rfl (fun _ => by kernel_rfl)) ?_
  refine GL.storeT (p := (b1, 0)) (vs := T_api_Value.c (⟨5, 0, [], p_l⟩ : T_api_Value)) h trivial rfl rfl rfl rfl ?_
  intro H3 h
  refine GL.nil ?_
  obtain ⟨x4, hr5, h⟩ := h
  exact GC.ret (fun _ _ hf hs => post_res1 rfl (RV.cellT (p := (b1, 0)) (cs := T_api_Value.c x4) rfl rfl rfl hr5) hf hs ⟨x4, rfl, h⟩)

def sh_law03_text (C : Ctx) (p_s : Str) (K : T_api_Value → Heap → Prop) (H : Heap) : Prop :=
  nw (T_api_Value.c T_api_Value.zero) (fun b1 H2 =>
 stT (b1, 0) (T_api_Value.c (⟨4, 0, p_s, Sl.nil⟩ : T_api_Value)) (fun H3 =>
 ldT H3 T_api_Value.c (b1, 0) fun x4 =>
 K x4 H3) H2) H

theorem ad_law03_text (C : Ctx) (p_s : Str) (K : T_api_Value → Heap → Prop) (H : Heap) (h : sh_law03_text C p_s K H) : c_law03_text C p_s K H := by
  refine Spec.enter Tryd.func36 rfl Tryd.ntmps36 rfl ?_
  refine GC.sub [(0, sv p_s)] ⟨rfl, trivial⟩ ?_
  refine GC.seq ?_
  refine GC.region ?_
  refine GL.alloc (cs := T_api_Value.c T_api_Value.zero) h trivial rfl rfl rfl ?_
  intro b1 H2 h
  refine GL.nil ?_
  refine GC.seq ?_
  refine GC.region ?_
  refine GL.val trivial rfl (OV.move (v := sv p_s) rfl) ?_
  refine GL.val trivial rfl (OV.build (vs := [(0, .int .u8 4), (2, sv p_s)]) (v := .agg (T_api_Value.c (⟨4, 0, p_s, Sl.nil⟩ : T_api_Value)).toArray) rfl (fun _ => by kernel_rfl)) ?_
  refine GL.storeT (p := (b1, 0)) (vs := T_api_Value.c (⟨4, 0, p_s, Sl.nil⟩ : T_api_Value)) h trivial rfl rfl rfl rfl ?_
  intro H3 h
  refine GL.nil ?_
  obtain ⟨x4, hr5, h⟩ := h
  exact GC.ret (fun _ _ hf hs => post_res1 rfl (RV.cellT (p := (b1, 0)) (cs := T_api_Value.c x4) rfl rfl rfl hr5) hf hs ⟨x4, rfl, h⟩)

def sh_ref02_Same (C : Ctx) (p_a : T_api_Value) (p_b : T_api_Value) (K : Bool → Heap → Prop) (H : Heap) : Prop :=
  nw (T_api_Value.c p_a) (fun b1 H2 =>
 nw (T_api_Value.c p_b) (fun b3 H4 =>
 ldI H4 .u8 ((b1, 0).1, (b1, 0).2 + 0) fun x5 =>
 ldI H4 .u8 ((b3, 0).1, (b3, 0).2 + 0) fun x7 =>
 jn (α := Bool) (fun b9 H17 =>
 jn (α := Bool) (fun b18 H26 =>
 jn (α := Bool) (fun b27 H37 =>
 K b27 H37)
 (fun J28 => ift b18
 (ldL H26 ((b1, 0).1, (b1, 0).2 + 3) fun x31 =>
 ldL H26 ((b3, 0).1, (b3, 0).2 + 3) fun x33 =>
 c_ref02_SameRow C x31 x33 (fun r35 H36 =>
 J28 r35 H36) H26)
 (J28 false H26)))
 (fun J19 => ift b9
 (ldS H17 ((b1, 0).1, (b1, 0).2 + 2) fun x22 =>
 ldS H17 ((b3, 0).1, (b3, 0).2 + 2) fun x24 =>
 J19 (x22 == x24) H17)
 (J19 false H17)))
 (fun J10 => ift ((x5 : Int) == x7)
 (ldI H4 .i64 ((b1, 0).1, (b1, 0).2 + 1) fun x13 =>
 ldI H4 .i64 ((b3, 0).1, (b3, 0).2 + 1) fun x15 =>
 J10 ((x13 : Int) == x15) H4)
 (J10 false H4))) H2) H

theorem ad_ref02_Same (C : Ctx) (p_a : T_api_Value) (p_b : T_api_Value) (K : Bool → Heap → Prop) (H : Heap) (h : sh_ref02_Same C p_a p_b K H) : c_ref02_Same C p_a p_b K H := by
  refine Spec.enter Tryd.func37 rfl Tryd.ntmps37 rfl ?_
  refine GC.sub [(0, .agg (T_api_Value.c p_a).toArray), (1, .agg (T_api_Value.c p_b).toArray)] ⟨rfl, rfl, trivial⟩ ?_
  refine GC.seq ?_
  refine GC.region ?_
  refine GL.box (v := .agg (T_api_Value.c p_a).toArray) (cs := T_api_Value.c p_a) h trivial rfl rfl rfl ?_
  intro b1 H2 h
  refine GL.box (v := .agg (T_api_Value.c p_b).toArray) (cs := T_api_Value.c p_b) h trivial rfl rfl rfl ?_
  intro b3 H4 h
  refine GL.val trivial rfl (OV.assign (v := .bool false) rfl) ?_
  refine GL.nil ?_
  refine GC.seq ?_
  refine GC.region ?_
  refine GL.val trivial rfl (OV.fieldAddr (p := (b1, 0)) rfl rfl) ?_
  obtain ⟨x5, hr6, h⟩ := h
  refine GL.val trivial rfl (OV.load (p := ((b1, 0).1, (b1, 0).2 + 0)) rfl rfl hr6) ?_
  refine GL.val trivial rfl (OV.fieldAddr (p := (b3, 0)) rfl rfl) ?_
  obtain ⟨x7, hr8, h⟩ := h
  refine GL.val trivial rfl (OV.load (p := ((b3, 0).1, (b3, 0).2 + 0)) rfl rfl hr8) ?_
  refine GL.val trivial rfl (OV.ibin (v := .bool ((x5 : Int) == x7)) rfl rfl rfl) ?_
  refine GL.val trivial rfl (OV.move (v := .bool ((x5 : Int) == x7)) rfl) ?_
  obtain ⟨J10, h, hR11⟩ := h
  refine GL.cut (α := Bool) 6 J10 (fun b9 => [(16, .bool b9), (2, pv (some (b1, 0))), (3, pv (some (b3, 0)))]) ?_ ?_
  · rcases Bool.eq_false_or_eq_true ((x5 : Int) == x7) with hc12 | hc12
    · skip
      replace h := And.left h hc12
      refine GL.val ⟨_, _, rfl, rfl, hc12⟩ rfl (OV.fieldAddr (p := (b1, 0)) rfl rfl) ?_
      obtain ⟨x13, hr14, h⟩ := h
      refine GL.val ⟨_, _, rfl, rfl, hc12⟩ rfl (OV.load (p := ((b1, 0).1, (b1, 0).2 + 1)) rfl rfl hr14) ?_
      refine GL.val ⟨_, _, rfl, rfl, hc12⟩ rfl (OV.fieldAddr (p := (b3, 0)) rfl rfl) ?_
      obtain ⟨x15, hr16, h⟩ := h
      refine GL.val ⟨_, _, rfl, rfl, hc12⟩ rfl (OV.load (p := ((b3, 0).1, (b3, 0).2 + 1)) rfl rfl hr16) ?_
      refine GL.val ⟨_, _, rfl, rfl, hc12⟩ rfl (OV.ibin (v := .bool ((x13 : Int) == x15)) rfl rfl rfl) ?_
      refine GL.val trivial rfl (OV.pickT (b := (x5 : Int) == x7) (v := .bool ((x13 : Int) == x15)) rfl hc12 rfl) ?_
      exact GL.jump (fun _ _ h => h) ((x13 : Int) == x15) h ⟨rfl, rfl, rfl, trivial⟩
    · skip
      replace h := And.right h hc12
      refine GL.skip ⟨_, rfl, .inl ⟨_, rfl, hc12⟩⟩ rfl ?_
      refine GL.skip ⟨_, rfl, .inl ⟨_, rfl, hc12⟩⟩ rfl ?_
      refine GL.skip ⟨_, rfl, .inl ⟨_, rfl, hc12⟩⟩ rfl ?_
      refine GL.skip ⟨_, rfl, .inl ⟨_, rfl, hc12⟩⟩ rfl ?_
      refine GL.skip ⟨_, rfl, .inl ⟨_, rfl, hc12⟩⟩ rfl ?_
      refine GL.val trivial rfl (OV.pickF (b := (x5 : Int) == x7) (v := .bool false) rfl hc12 rfl) ?_
      exact GL.jump (fun _ _ h => h) false h ⟨rfl, rfl, rfl, trivial⟩
  intro b9 H17 h
  replace h := hR11 b9 H17 h
  refine GL.val trivial rfl (OV.move (v := .bool b9) rfl) ?_
  obtain ⟨J19, h, hR20⟩ := h
  refine GL.cut (α := Bool) 6 J19 (fun b18 => [(23, .bool b18), (2, pv (some (b1, 0))), (3, pv (some (b3, 0)))]) ?_ ?_
  · rcases Bool.eq_false_or_eq_true b9 with hc21 | hc21
    · skip
      replace h := And.left h hc21
      refine GL.val ⟨_, _, rfl, rfl, hc21⟩ rfl (OV.fieldAddr (p := (b1, 0)) rfl rfl) ?_
      obtain ⟨x22, hr23, h⟩ := h
      refine GL.val ⟨_, _, rfl, rfl, hc21⟩ rfl (OV.load (p := ((b1, 0).1, (b1, 0).2 + 2)) rfl rfl hr23) ?_
      refine GL.val ⟨_, _, rfl, rfl, hc21⟩ rfl (OV.fieldAddr (p := (b3, 0)) rfl rfl) ?_
      obtain ⟨x24, hr25, h⟩ := h
      refine GL.val ⟨_, _, rfl, rfl, hc21⟩ rfl (OV.load (p := ((b3, 0).1, (b3, 0).2 + 2)) rfl rfl hr25) ?_
      refine GL.val ⟨_, _, rfl, rfl, hc21⟩ rfl (OV.sbin (a := x22) (b := x24) (v := .bool (x22 == x24)) rfl rfl rfl) ?_
      refine GL.val trivial rfl (OV.pickT (b := b9) (v := .bool (x22 == x24)) rfl hc21 rfl) ?_
      exact GL.jump (fun _ _ h => h) (x22 == x24) h ⟨rfl, rfl, rfl, trivial⟩
    · skip
      replace h := And.right h hc21
      refine GL.skip ⟨_, rfl, .inl ⟨_, rfl, hc21⟩⟩ rfl ?_
      refine GL.skip ⟨_, rfl, .inl ⟨_, rfl, hc21⟩⟩ rfl ?_
      refine GL.skip ⟨_, rfl, .inl ⟨_, rfl, hc21⟩⟩ rfl ?_
      refine GL.skip ⟨_, rfl, .inl ⟨_, rfl, hc21⟩⟩ rfl ?_
      refine GL.skip ⟨_, rfl, .inl ⟨_, rfl, hc21⟩⟩ rfl ?_
      refine GL.val trivial rfl (OV.pickF (b := b9) (v := .bool false) rfl hc21 rfl) ?_
      exact GL.jump (fun _ _ h => h) false h ⟨rfl, rfl, rfl, trivial⟩
  intro b18 H26 h
  replace h := hR20 b18 H26 h
  refine GL.val trivial rfl (OV.move (v := .bool b18) rfl) ?_
  obtain ⟨J28, h, hR29⟩ := h
  refine GL.cut (α := Bool) 6 J28 (fun b27 => [(30, .bool b27)]) ?_ ?_
  · rcases Bool.eq_false_or_eq_true b18 with hc30 | hc30
    · skip
      replace h := And.left h hc30
      refine GL.val ⟨_, _, rfl, rfl, hc30⟩ rfl (OV.fieldAddr (p := (b1, 0)) rfl rfl) ?_
      obtain ⟨x31, hr32, h⟩ := h
      refine GL.val ⟨_, _, rfl, rfl, hc30⟩ rfl (OV.load (p := ((b1, 0).1, (b1, 0).2 + 3)) rfl rfl hr32) ?_
      refine GL.val ⟨_, _, rfl, rfl, hc30⟩ rfl (OV.fieldAddr (p := (b3, 0)) rfl rfl) ?_
      obtain ⟨x33, hr34, h⟩ := h
      refine GL.val ⟨_, _, rfl, rfl, hc30⟩ rfl (OV.load (p := ((b3, 0).1, (b3, 0).2 + 3)) rfl rfl hr34) ?_
      refine GL.call h ⟨_, _, rfl, rfl, hc30⟩ rfl ok_ref02_SameRow (vs := [slv x31, slv x33]) rfl ?_
      rintro _ H36 ⟨r35, rfl, h⟩
      refine GL.val trivial rfl (OV.pickT (b := b18) (v := .bool r35) rfl hc30 rfl) ?_
      exact GL.jump (fun _ _ h => h) r35 h ⟨rfl, trivial⟩
    · skip
      replace h := And.right h hc30
      refine GL.skip ⟨_, rfl, .inl ⟨_, rfl, hc30⟩⟩ rfl ?_
      refine GL.skip ⟨_, rfl, .inl ⟨_, rfl, hc30⟩⟩ rfl ?_
      refine GL.skip ⟨_, rfl, .inl ⟨_, rfl, hc30⟩⟩ rfl ?_
      refine GL.skip ⟨_, rfl, .inl ⟨_, rfl, hc30⟩⟩ rfl ?_
      refine GL.skip ⟨_, rfl, .inl ⟨_, rfl, hc30⟩⟩ rfl ?_
      refine GL.val trivial rfl (OV.pickF (b := b18) (v := .bool false) rfl hc30 rfl) ?_
      exact GL.jump (fun _ _ h => h) false h ⟨rfl, trivial⟩
  intro b27 H37 h
  replace h := hR29 b27 H37 h
  refine GL.val trivial rfl (OV.assign (v := .bool b27) rfl) ?_
  refine GL.nil ?_
  exact GC.ret (fun _ _ hf hs => post_tmp1 rfl rfl hf hs ⟨b27, rfl, h⟩)

def sh_code_Reader_Value (C : Ctx) (p_r : Option (Nat × Nat)) (K : T_api_Value → Heap → Prop) (H : Heap) : Prop :=
  nw (T_api_Value.c T_api_Value.zero) (fun b1 H2 =>
 ift (Option.isNone p_r)
 (stT (b1, 0) (T_api_Value.c (⟨0, 0, [], Sl.nil⟩ : T_api_Value)) (fun H4 =>
 ldT H4 T_api_Value.c (b1, 0) fun x5 =>
 K x5 H4) H2)
 (c_code_Reader_value C p_r 1 (fun r7 H8 =>
 nw (T_api_Value.c T_api_Value.zero) (fun b9 H10 =>
 stT (b9, 0) (T_api_Value.c r7) (fun H11 =>
 ldT H11 T_api_Value.c (b9, 0) fun x12 =>
 c_value_Check C x12 (fun r14 H15 =>
 c_code_Reader_ask C p_r ((r14 : Int) == 0) (fun r16 H17 =>
 ift (!r16)
 (stT (b1, 0) (T_api_Value.c (⟨0, 0, [], Sl.nil⟩ : T_api_Value)) (fun H19 =>
 ldT H19 T_api_Value.c (b1, 0) fun x20 =>
 K x20 H19) H17)
 (ldT H17 T_api_Value.c (b9, 0) fun x22 =>
 stT (b1, 0) (T_api_Value.c x22) (fun H24 =>
 ldT H24 T_api_Value.c (b1, 0) fun x25 =>
 K x25 H24) H17)) H15) H11) H10) H8) H2)) H

theorem ad_code_Reader_Value (C : Ctx) (p_r : Option (Nat × Nat)) (K : T_api_Value → Heap → Prop) (H : Heap) (h : sh_code_Reader_Value C p_r K H) : c_code_Reader_Value C p_r K H := by
  refine Spec.enter Tryd.func38 rfl Tryd.ntmps38 rfl ?_
  refine GC.sub [(0, pv p_r)] ⟨rfl, trivial⟩ ?_
  refine GC.seq ?_
  refine GC.region ?_
  refine GL.alloc (cs := T_api_Value.c T_api_Value.zero) h trivial rfl rfl rfl ?_
  intro b1 H2 h
  refine GL.nil ?_
  refine GC.seq ?_
  refine GC.seq ?_
  refine GC.region ?_
  refine GL.val trivial rfl (OV.move (v := pv p_r) rfl) ?_
  refine GL.val trivial rfl (OV.eqlNil (p := p_r) rfl rfl rfl) ?_
  refine GL.nil ?_
  refine GC.cond (b := Option.isNone p_r) rfl (fun hc3 => ?_) (fun hc3 => ?_)
  · replace h := And.left h hc3
    refine GC.seq ?_
    refine GC.region ?_
    refine GL.val trivial rfl (OV.build (vs := []) (v := .agg (T_api_Value.c (⟨0, 0, [], Sl.nil⟩ : T_api_Value)).toArray) rfl (fun _ => by kernel_rfl)) ?_
    refine GL.storeT (p := (b1, 0)) (vs := T_api_Value.c (⟨0, 0, [], Sl.nil⟩ : T_api_Value)) h trivial rfl rfl rfl rfl ?_
    intro H4 h
    refine GL.nil ?_
    obtain ⟨x5, hr6, h⟩ := h
    exact GC.ret (fun _ _ hf hs => post_res1 rfl (RV.cellT (p := (b1, 0)) (cs := T_api_Value.c x5) rfl rfl rfl hr6) hf hs ⟨x5, rfl, h⟩)
  · replace h := And.right h hc3
    refine GC.skip ?_
    refine GC.seq ?_
    refine GC.region ?_
    refine GL.val trivial rfl (OV.move (v := pv p_r) rfl) ?_
    refine GL.call h trivial rfl ok_code_Reader_value (vs := [pv p_r, .int .i64 1]) rfl ?_
    rintro _ H8 ⟨r7, rfl, h⟩
    refine GL.alloc (cs := T_api_Value.c T_api_Value.zero) h trivial rfl rfl rfl ?_
    intro b9 H10 h
    refine GL.storeT (p := (b9, 0)) (vs := T_api_Value.c r7) h trivial rfl rfl rfl rfl ?_
    intro H11 h
    refine GL.nil ?_
    refine GC.seq ?_
    refine GC.seq ?_
    refine GC.region ?_
    refine GL.val trivial rfl (OV.move (v := pv p_r) rfl) ?_
    obtain ⟨x12, hr13, h⟩ := h
    refine GL.val trivial rfl (OV.loadT (p := (b9, 0)) (cs := T_api_Value.c x12) rfl rfl rfl hr13) ?_
    refine GL.call h trivial rfl ok_value_Check (vs := [.agg (T_api_Value.c x12).toArray]) rfl ?_
    rintro _ H15 ⟨r14, rfl, h⟩
    refine GL.val trivial rfl (OV.ibin (v := .bool ((r14 : Int) == 0)) rfl rfl rfl) ?_
    refine GL.call h trivial rfl ok_code_Reader_ask (vs := [pv p_r, .bool ((r14 : Int) == 0)]) rfl ?_
    rintro _ H17 ⟨r16, rfl, h⟩
    refine GL.val trivial rfl (OV.not rfl) ?_
    refine GL.nil ?_
    refine GC.cond (b := !r16) rfl (fun hc18 => ?_) (fun hc18 => ?_)
    · replace h := And.left h hc18
      refine GC.seq ?_
      refine GC.region ?_
      refine GL.val trivial rfl (OV.build (vs := []) (v := .agg (T_api_Value.c (⟨0, 0, [], Sl.nil⟩ : T_api_Value)).toArray) rfl (fun _ => by kernel_rfl)) ?_
      refine GL.storeT (p := (b1, 0)) (vs := T_api_Value.c (⟨0, 0, [], Sl.nil⟩ : T_api_Value)) h trivial rfl rfl rfl rfl ?_
      intro H19 h
      refine GL.nil ?_
      obtain ⟨x20, hr21, h⟩ := h
      exact GC.ret (fun _ _ hf hs => post_res1 rfl (RV.cellT (p := (b1, 0)) (cs := T_api_Value.c x20) rfl rfl rfl hr21) hf hs ⟨x20, rfl, h⟩)
    · replace h := And.right h hc18
      refine GC.skip ?_
      refine GC.seq ?_
      refine GC.region ?_
      obtain ⟨x22, hr23, h⟩ := h
      refine GL.val trivial rfl (OV.loadT (p := (b9, 0)) (cs := T_api_Value.c x22) rfl rfl rfl hr23) ?_
      refine GL.storeT (p := (b1, 0)) (vs := T_api_Value.c x22) h trivial rfl rfl rfl rfl ?_
      intro H24 h
      refine GL.nil ?_
      obtain ⟨x25, hr26, h⟩ := h
      exact GC.ret (fun _ _ hf hs => post_res1 rfl (RV.cellT (p := (b1, 0)) (cs := T_api_Value.c x25) rfl rfl rfl hr26) hf hs ⟨x25, rfl, h⟩)

def sh_code_Reader_OK (C : Ctx) (p_r : Option (Nat × Nat)) (K : Bool → Heap → Prop) (H : Heap) : Prop :=
  jn (α := Bool) (fun b1 H9 =>
 K b1 H9)
 (fun J2 => ift (!(Option.isNone p_r))
 (nck p_r fun p5 =>
 ldB H (p5.1, p5.2 + 2) fun x7 =>
 J2 (!x7) H)
 (J2 false H))

theorem ad_code_Reader_OK (C : Ctx) (p_r : Option (Nat × Nat)) (K : Bool → Heap → Prop) (H : Heap) (h : sh_code_Reader_OK C p_r K H) : c_code_Reader_OK C p_r K H := by
  refine Spec.enter Tryd.func39 rfl Tryd.ntmps39 rfl ?_
  refine GC.sub [(0, pv p_r)] ⟨rfl, trivial⟩ ?_
  refine GC.seq ?_
  refine GC.region ?_
  refine GL.val trivial rfl (OV.assign (v := .bool false) rfl) ?_
  refine GL.nil ?_
  refine GC.seq ?_
  refine GC.region ?_
  refine GL.val trivial rfl (OV.move (v := pv p_r) rfl) ?_
  refine GL.val trivial rfl (OV.neqNil (p := p_r) rfl rfl rfl) ?_
  refine GL.val trivial rfl (OV.move (v := .bool (!(Option.isNone p_r))) rfl) ?_
  obtain ⟨J2, h, hR3⟩ := h
  refine GL.cut (α := Bool) 6 J2 (fun b1 => [(11, .bool b1)]) ?_ ?_
  · rcases Bool.eq_false_or_eq_true (!(Option.isNone p_r)) with hc4 | hc4
    · skip
      replace h := And.left h hc4
      refine GL.val ⟨_, _, rfl, rfl, hc4⟩ rfl (OV.move (v := pv p_r) rfl) ?_
      obtain ⟨p5, hp6, h⟩ := h
      refine GL.val ⟨_, _, rfl, rfl, hc4⟩ rfl (OV.nilCheck (q := p_r) rfl hp6) ?_
      refine GL.val ⟨_, _, rfl, rfl, hc4⟩ rfl (OV.fieldAddr (p := p5) rfl rfl) ?_
      obtain ⟨x7, hr8, h⟩ := h
      refine GL.val ⟨_, _, rfl, rfl, hc4⟩ rfl (OV.load (p := (p5.1, p5.2 + 2)) rfl rfl hr8) ?_
      refine GL.val ⟨_, _, rfl, rfl, hc4⟩ rfl (OV.not rfl) ?_
      refine GL.val trivial rfl (OV.pickT (b := !(Option.isNone p_r)) (v := .bool (!x7)) rfl hc4 rfl) ?_
      exact GL.jump (fun _ _ h => h) (!x7) h ⟨rfl, trivial⟩
    · skip
      replace h := And.right h hc4
      refine GL.skip ⟨_, rfl, .inl ⟨_, rfl, hc4⟩⟩ rfl ?_
      refine GL.skip ⟨_, rfl, .inl ⟨_, rfl, hc4⟩⟩ rfl ?_
      refine GL.skip ⟨_, rfl, .inl ⟨_, rfl, hc4⟩⟩ rfl ?_
      refine GL.skip ⟨_, rfl, .inl ⟨_, rfl, hc4⟩⟩ rfl ?_
      refine GL.skip ⟨_, rfl, .inl ⟨_, rfl, hc4⟩⟩ rfl ?_
      refine GL.val trivial rfl (OV.pickF (b := !(Option.isNone p_r)) (v := .bool false) rfl hc4 rfl) ?_
      exact GL.jump (fun _ _ h => h) false h ⟨rfl, trivial⟩
  intro b1 H9 h
  replace h := hR3 b1 H9 h
  refine GL.val trivial rfl (OV.assign (v := .bool b1) rfl) ?_
  refine GL.nil ?_
  exact GC.ret (fun _ _ hf hs => post_tmp1 rfl rfl hf hs ⟨b1, rfl, h⟩)

def sh_code_Reader_Count (C : Ctx) (p_r : Option (Nat × Nat)) (p_most : Int) (K : Int → Heap → Prop) (H : Heap) : Prop :=
  ift (Option.isNone p_r)
 (K 0 H)
 (c_code_Reader_next C p_r (fun r2 H3 =>
 c_code_Reader_number C p_r (w .i64 r2) 4 (fun r4 H5 =>
 c_code_Reader_ask C p_r (((decide ((p_most : Int) ≥ 0)) && (decide ((r4 : Int) ≤ 2147483647))) && (decide (((w .i64 r4) : Int) ≤ p_most))) (fun r8 H9 =>
 ift (!r8)
 (K 0 H9)
 (K (w .i64 r4) H9)) H5) H3) H)

theorem ad_code_Reader_Count (C : Ctx) (p_r : Option (Nat × Nat)) (p_most : Int) (K : Int → Heap → Prop) (H : Heap) (h : sh_code_Reader_Count C p_r p_most K H) : c_code_Reader_Count C p_r p_most K H := by
  refine Spec.enter Tryd.func40 rfl Tryd.ntmps40 rfl ?_
  refine GC.sub [(0, pv p_r), (1, .int .i64 p_most)] ⟨rfl, rfl, trivial⟩ ?_
  refine GC.seq ?_
  refine GC.region ?_
  refine GL.val trivial rfl (OV.assign (v := .int .i64 0) rfl) ?_
  refine GL.nil ?_
  refine GC.seq ?_
  refine GC.seq ?_
  refine GC.region ?_
  refine GL.val trivial rfl (OV.move (v := pv p_r) rfl) ?_
  refine GL.val trivial rfl (OV.eqlNil (p := p_r) rfl rfl rfl) ?_
  refine GL.nil ?_
  refine GC.cond (b := Option.isNone p_r) rfl (fun hc1 => ?_) (fun hc1 => ?_)
  · replace h := And.left h hc1
    refine GC.seq ?_
    refine GC.region ?_
    refine GL.val trivial rfl (OV.assign (v := .int .i64 0) rfl) ?_
    refine GL.nil ?_
    exact GC.ret (fun _ _ hf hs => post_tmp1 rfl rfl hf hs ⟨0, rfl, h⟩)
  · replace h := And.right h hc1
    refine GC.skip ?_
    refine GC.seq ?_
    refine GC.region ?_
    refine GL.val trivial rfl (OV.move (v := pv p_r) rfl) ?_
    refine GL.val trivial rfl (OV.move (v := pv p_r) rfl) ?_
    refine GL.call h trivial rfl ok_code_Reader_next (vs := [pv p_r]) rfl ?_
    rintro _ H3 ⟨r2, rfl, h⟩
    refine GL.val trivial rfl (OV.convInt rfl rfl rfl) ?_
    refine GL.call h trivial rfl ok_code_Reader_number (vs := [pv p_r, .int .i64 (w .i64 r2), .int .i64 4]) rfl ?_
    rintro _ H5 ⟨r4, rfl, h⟩
    refine GL.val trivial rfl (OV.assign (v := .int .u64 r4) rfl) ?_
    refine GL.nil ?_
    refine GC.seq ?_
    refine GC.seq ?_
    refine GC.region ?_
    refine GL.val trivial rfl (OV.move (v := pv p_r) rfl) ?_
    refine GL.val trivial rfl (OV.move (v := .int .i64 p_most) rfl) ?_
    refine GL.val trivial rfl (OV.ibin (v := .bool (decide ((p_most : Int) ≥ 0))) rfl rfl rfl) ?_
    refine GL.val trivial rfl (OV.move (v := .bool (decide ((p_most : Int) ≥ 0))) rfl) ?_
    refine GL.cut0 3 [(19, .bool ((decide ((p_most : Int) ≥ 0)) && (decide ((r4 : Int) ≤ 2147483647)))), (1, .int .i64 p_most), (5, .int .u64 r4), (13, pv p_r)] ?_ ?_
    · rcases Bool.eq_false_or_eq_true (decide ((p_most : Int) ≥ 0)) with hc6 | hc6
      · skip
        refine GL.val ⟨_, _, rfl, rfl, hc6⟩ rfl (OV.move (v := .int .u64 r4) rfl) ?_
        refine GL.val ⟨_, _, rfl, rfl, hc6⟩ rfl (OV.ibin (v := .bool (decide ((r4 : Int) ≤ 2147483647))) rfl rfl rfl) ?_
        refine GL.val trivial rfl (OV.pickT (b := decide ((p_most : Int) ≥ 0)) (v := .bool (decide ((r4 : Int) ≤ 2147483647))) rfl hc6 rfl) ?_
        exact GL.jump0 (fun _ _ h => h) () rfl ⟨(by rw [hc6]; rfl), rfl, rfl, rfl, trivial⟩
      · skip
        refine GL.skip ⟨_, rfl, .inl ⟨_, rfl, hc6⟩⟩ rfl ?_
        refine GL.skip ⟨_, rfl, .inl ⟨_, rfl, hc6⟩⟩ rfl ?_
        refine GL.val trivial rfl (OV.pickF (b := decide ((p_most : Int) ≥ 0)) (v := .bool false) rfl hc6 rfl) ?_
        exact GL.jump0 (fun _ _ h => h) () rfl ⟨(by rw [hc6]; rfl), rfl, rfl, rfl, trivial⟩
    refine GL.val trivial rfl (OV.move (v := .bool ((decide ((p_most : Int) ≥ 0)) && (decide ((r4 : Int) ≤ 2147483647)))) rfl) ?_
    refine GL.cut0 5 [(25, .bool (((decide ((p_most : Int) ≥ 0)) && (decide ((r4 : Int) ≤ 2147483647))) && (decide (((w .i64 r4) : Int) ≤ p_most)))), (5, .int .u64 r4), (13, pv p_r)] ?_ ?_
    · rcases Bool.eq_false_or_eq_true ((decide ((p_most : Int) ≥ 0)) && (decide ((r4 : Int) ≤ 2147483647))) with hc7 | hc7
      · skip
        refine GL.val ⟨_, _, rfl, rfl, hc7⟩ rfl (OV.move (v := .int .u64 r4) rfl) ?_
        refine GL.val ⟨_, _, rfl, rfl, hc7⟩ rfl (OV.convInt rfl rfl rfl) ?_
        refine GL.val ⟨_, _, rfl, rfl, hc7⟩ rfl (OV.move (v := .int .i64 p_most) rfl) ?_
        refine GL.val ⟨_, _, rfl, rfl, hc7⟩ rfl (OV.ibin (v := .bool (decide (((w .i64 r4) : Int) ≤ p_most))) rfl rfl rfl) ?_
        refine GL.val trivial rfl (OV.pickT (b := (decide ((p_most : Int) ≥ 0)) && (decide ((r4 : Int) ≤ 2147483647))) (v := .bool (decide (((w .i64 r4) : Int) ≤ p_most))) rfl hc7 rfl) ?_
        exact GL.jump0 (fun _ _ h => h) () rfl ⟨(by rw [hc7]; rfl), rfl, rfl, trivial⟩
      · skip
        refine GL.skip ⟨_, rfl, .inl ⟨_, rfl, hc7⟩⟩ rfl ?_
        refine GL.skip ⟨_, rfl, .inl ⟨_, rfl, hc7⟩⟩ rfl ?_
        refine GL.skip ⟨_, rfl, .inl ⟨_, rfl, hc7⟩⟩ rfl ?_
        refine GL.skip ⟨_, rfl, .inl ⟨_, rfl, hc7⟩⟩ rfl ?_
        refine GL.val trivial rfl (OV.pickF (b := (decide ((p_most : Int) ≥ 0)) && (decide ((r4 : Int) ≤ 2147483647))) (v := .bool false) rfl hc7 rfl) ?_
        exact GL.jump0 (fun _ _ h => h) () rfl ⟨(by rw [hc7]; rfl), rfl, rfl, trivial⟩
    refine GL.call h trivial rfl ok_code_Reader_ask (vs := [pv p_r, .bool (((decide ((p_most : Int) ≥ 0)) && (decide ((r4 : Int) ≤ 2147483647))) && (decide (((w .i64 r4) : Int) ≤ p_most)))]) rfl ?_
    rintro _ H9 ⟨r8, rfl, h⟩
    refine GL.val trivial rfl (OV.not rfl) ?_
    refine GL.nil ?_
    refine GC.cond (b := !r8) rfl (fun hc10 => ?_) (fun hc10 => ?_)
    · replace h := And.left h hc10
      refine GC.seq ?_
      refine GC.region ?_
      refine GL.val trivial rfl (OV.assign (v := .int .i64 0) rfl) ?_
      refine GL.nil ?_
      exact GC.ret (fun _ _ hf hs => post_tmp1 rfl rfl hf hs ⟨0, rfl, h⟩)
    · replace h := And.right h hc10
      refine GC.skip ?_
      refine GC.seq ?_
      refine GC.region ?_
      refine GL.val trivial rfl (OV.move (v := .int .u64 r4) rfl) ?_
      refine GL.val trivial rfl (OV.convInt rfl rfl rfl) ?_
      refine GL.val trivial rfl (OV.assign (v := .int .i64 (w .i64 r4)) rfl) ?_
      refine GL.nil ?_
      exact GC.ret (fun _ _ hf hs => post_tmp1 rfl rfl hf hs ⟨(w .i64 r4), rfl, h⟩)

def sh_code_Reader_Flag (C : Ctx) (p_r : Option (Nat × Nat)) (K : Bool → Heap → Prop) (H : Heap) : Prop :=
  ift (Option.isNone p_r)
 (K false H)
 (c_code_Reader_next C p_r (fun r2 H3 =>
 c_code_Reader_ask C p_r (decide ((r2 : Int) ≤ 1)) (fun r4 H5 =>
 K (r4 && ((r2 : Int) == 1)) H5) H3) H)

theorem ad_code_Reader_Flag (C : Ctx) (p_r : Option (Nat × Nat)) (K : Bool → Heap → Prop) (H : Heap) (h : sh_code_Reader_Flag C p_r K H) : c_code_Reader_Flag C p_r K H := by
  refine Spec.enter Tryd.func41 rfl Tryd.ntmps41 rfl ?_
  refine GC.sub [(0, pv p_r)] ⟨rfl, trivial⟩ ?_
  refine GC.seq ?_
  refine GC.region ?_
  refine GL.val trivial rfl (OV.assign (v := .bool false) rfl) ?_
  refine GL.nil ?_
  refine GC.seq ?_
  refine GC.seq ?_
  refine GC.region ?_
  refine GL.val trivial rfl (OV.move (v := pv p_r) rfl) ?_
  refine GL.val trivial rfl (OV.eqlNil (p := p_r) rfl rfl rfl) ?_
  refine GL.nil ?_
  refine GC.cond (b := Option.isNone p_r) rfl (fun hc1 => ?_) (fun hc1 => ?_)
  · replace h := And.left h hc1
    refine GC.seq ?_
    refine GC.region ?_
    refine GL.val trivial rfl (OV.assign (v := .bool false) rfl) ?_
    refine GL.nil ?_
    exact GC.ret (fun _ _ hf hs => post_tmp1 rfl rfl hf hs ⟨false, rfl, h⟩)
  · replace h := And.right h hc1
    refine GC.skip ?_
    refine GC.seq ?_
    refine GC.region ?_
    refine GL.val trivial rfl (OV.move (v := pv p_r) rfl) ?_
    refine GL.call h trivial rfl ok_code_Reader_next (vs := [pv p_r]) rfl ?_
    rintro _ H3 ⟨r2, rfl, h⟩
    refine GL.val trivial rfl (OV.assign (v := .int .u8 r2) rfl) ?_
    refine GL.nil ?_
    refine GC.seq ?_
    refine GC.region ?_
    refine GL.val trivial rfl (OV.move (v := pv p_r) rfl) ?_
    refine GL.val trivial rfl (OV.move (v := .int .u8 r2) rfl) ?_
    refine GL.val trivial rfl (OV.ibin (v := .bool (decide ((r2 : Int) ≤ 1))) rfl rfl rfl) ?_
    refine GL.call h trivial rfl ok_code_Reader_ask (vs := [pv p_r, .bool (decide ((r2 : Int) ≤ 1))]) rfl ?_
    rintro _ H5 ⟨r4, rfl, h⟩
    refine GL.val trivial rfl (OV.move (v := .bool r4) rfl) ?_
    refine GL.cut0 3 [(15, .bool (r4 && ((r2 : Int) == 1)))] ?_ ?_
    · rcases Bool.eq_false_or_eq_true r4 with hc6 | hc6
      · skip
        refine GL.val ⟨_, _, rfl, rfl, hc6⟩ rfl (OV.move (v := .int .u8 r2) rfl) ?_
        refine GL.val ⟨_, _, rfl, rfl, hc6⟩ rfl (OV.ibin (v := .bool ((r2 : Int) == 1)) rfl rfl rfl) ?_
        refine GL.val trivial rfl (OV.pickT (b := r4) (v := .bool ((r2 : Int) == 1)) rfl hc6 rfl) ?_
        exact GL.jump0 (fun _ _ h => h) () rfl ⟨(by rw [hc6]; rfl), trivial⟩
      · skip
        refine GL.skip ⟨_, rfl, .inl ⟨_, rfl, hc6⟩⟩ rfl ?_
        refine GL.skip ⟨_, rfl, .inl ⟨_, rfl, hc6⟩⟩ rfl ?_
        refine GL.val trivial rfl (OV.pickF (b := r4) (v := .bool false) rfl hc6 rfl) ?_
        exact GL.jump0 (fun _ _ h => h) () rfl ⟨(by rw [hc6]; rfl), trivial⟩
    refine GL.val trivial rfl (OV.assign (v := .bool (r4 && ((r2 : Int) == 1))) rfl) ?_
    refine GL.nil ?_
    exact GC.ret (fun _ _ hf hs => post_tmp1 rfl rfl hf hs ⟨(r4 && ((r2 : Int) == 1)), rfl, h⟩)

def sh_law03_parts (C : Ctx) (p_v : T_api_Value) (K : Int → Heap → Prop) (H : Heap) : Prop :=
  nw (T_api_Value.c p_v) (fun b1 H2 =>
 ldS H2 ((b1, 0).1, (b1, 0).2 + 2) fun x3 =>
 lp (α := Int × Int) ((w .i64 (1 + (w .i64 (Int.tdiv (List.length x3 : Int) 64)))), 0) H2 (fun x5 J6 H7 =>
 ldL H7 ((b1, 0).1, (b1, 0).2 + 3) fun x8 =>
 ift ((decide ((x5.2 : Int) < (Sl.len x8 : Int))) && (decide ((x5.1 : Int) < 3000)))
 (ldL H7 ((b1, 0).1, (b1, 0).2 + 3) fun x12 =>
 ixa x12 x5.2 fun p14 =>
 ldT H7 T_api_Value.c (p14.1, p14.2 + (x5.2 : Int).toNat * 4) fun x19 =>
 c_law03_parts C x19 (fun r21 H22 =>
 J6 ((w .i64 (x5.1 + r21)), (w .i64 (x5.2 + 1))) H22) H7)
 (K x5.1 H7))) H

theorem ad_law03_parts (C : Ctx) (p_v : T_api_Value) (K : Int → Heap → Prop) (H : Heap) (h : sh_law03_parts C p_v K H) : c_law03_parts C p_v K H := by
  refine Spec.enter Tryd.func42 rfl Tryd.ntmps42 rfl ?_
  refine GC.sub [(0, .agg (T_api_Value.c p_v).toArray)] ⟨rfl, trivial⟩ ?_
  refine GC.seq ?_
  refine GC.region ?_
  refine GL.box (v := .agg (T_api_Value.c p_v).toArray) (cs := T_api_Value.c p_v) h trivial rfl rfl rfl ?_
  intro b1 H2 h
  refine GL.val trivial rfl (OV.assign (v := .int .i64 0) rfl) ?_
  refine GL.nil ?_
  refine GC.seq ?_
  refine GC.region ?_
  refine GL.val trivial rfl (OV.fieldAddr (p := (b1, 0)) rfl rfl) ?_
  obtain ⟨x3, hr4, h⟩ := h
  refine GL.val trivial rfl (OV.load (p := ((b1, 0).1, (b1, 0).2 + 2)) rfl rfl hr4) ?_
  refine GL.val trivial rfl (OV.lenStr (s := x3) rfl rfl) ?_
  refine GL.val trivial rfl (OV.quo rfl rfl (by decide)) ?_
  refine GL.val trivial rfl (OV.ibin (v := .int .i64 (w .i64 (1 + (w .i64 (Int.tdiv (List.length x3 : Int) 64))))) rfl rfl rfl) ?_
  refine GL.val trivial rfl (OV.assign (v := .int .i64 (w .i64 (1 + (w .i64 (Int.tdiv (List.length x3 : Int) 64))))) rfl) ?_
  refine GL.nil ?_
  refine GC.seq ?_
  refine GC.seq ?_
  refine GC.region ?_
  refine GL.val trivial rfl (OV.assign (v := .int .i64 0) rfl) ?_
  refine GL.nil ?_
  refine GC.block ?_
  refine GC.loop (α := Int × Int) h (fun x5 => [(3, .int .i64 x5.1), (4, .int .i64 x5.2), (1, pv (some (b1, 0)))]) ⟨rfl, rfl, rfl, trivial⟩ ?_
  intro x5 H7 J6 h
  refine GC.seq ?_
  refine GC.seq ?_
  refine GC.region ?_
  refine GL.val trivial rfl (OV.move (v := .int .i64 x5.2) rfl) ?_
  refine GL.val trivial rfl (OV.fieldAddr (p := (b1, 0)) rfl rfl) ?_
  obtain ⟨x8, hr9, h⟩ := h
  refine GL.val trivial rfl (OV.load (p := ((b1, 0).1, (b1, 0).2 + 3)) rfl rfl hr9) ?_
  refine GL.val trivial rfl (OV.lenSl (s := x8) rfl rfl) ?_
  refine GL.val trivial rfl (OV.ibin (v := .bool (decide ((x5.2 : Int) < (Sl.len x8 : Int)))) rfl rfl rfl) ?_
  refine GL.val trivial rfl (OV.move (v := .bool (decide ((x5.2 : Int) < (Sl.len x8 : Int)))) rfl) ?_
  refine GL.cut0 3 [(18, .bool ((decide ((x5.2 : Int) < (Sl.len x8 : Int))) && (decide ((x5.1 : Int) < 3000)))), (1, pv (some (b1, 0))), (3, .int .i64 x5.1), (4, .int .i64 x5.2)] ?_ ?_
  · rcases Bool.eq_false_or_eq_true (decide ((x5.2 : Int) < (Sl.len x8 : Int))) with hc10 | hc10
    · skip
      refine GL.val ⟨_, _, rfl, rfl, hc10⟩ rfl (OV.move (v := .int .i64 x5.1) rfl) ?_
      refine GL.val ⟨_, _, rfl, rfl, hc10⟩ rfl (OV.ibin (v := .bool (decide ((x5.1 : Int) < 3000))) rfl rfl rfl) ?_
      refine GL.val trivial rfl (OV.pickT (b := decide ((x5.2 : Int) < (Sl.len x8 : Int))) (v := .bool (decide ((x5.1 : Int) < 3000))) rfl hc10 rfl) ?_
      exact GL.jump0 (fun _ _ h => h) () rfl ⟨(by rw [hc10]; rfl), rfl, rfl, rfl, trivial⟩
    · skip
      refine GL.skip ⟨_, rfl, .inl ⟨_, rfl, hc10⟩⟩ rfl ?_
      refine GL.skip ⟨_, rfl, .inl ⟨_, rfl, hc10⟩⟩ rfl ?_
      refine GL.val trivial rfl (OV.pickF (b := decide ((x5.2 : Int) < (Sl.len x8 : Int))) (v := .bool false) rfl hc10 rfl) ?_
      exact GL.jump0 (fun _ _ h => h) () rfl ⟨(by rw [hc10]; rfl), rfl, rfl, rfl, trivial⟩
  refine GL.nil ?_
  refine GC.cond (b := (decide ((x5.2 : Int) < (Sl.len x8 : Int))) && (decide ((x5.1 : Int) < 3000))) rfl (fun hc11 => ?_) (fun hc11 => ?_)
  · replace h := And.left h hc11
    refine GC.skip ?_
    refine GC.seq ?_
    refine GC.block ?_
    refine GC.region ?_
    refine GL.val trivial rfl (OV.move (v := .int .i64 x5.1) rfl) ?_
    refine GL.val trivial rfl (OV.fieldAddr (p := (b1, 0)) rfl rfl) ?_
    obtain ⟨x12, hr13, h⟩ := h
    refine GL.val trivial rfl (OV.load (p := ((b1, 0).1, (b1, 0).2 + 3)) rfl rfl hr13) ?_
    refine GL.val trivial rfl (OV.move (v := .int .i64 x5.2) rfl) ?_
    obtain ⟨p14, ha15, hb16, hc17, hd18, h⟩ := h
    refine GL.val trivial rfl (OV.indexAddr (s := x12) rfl rfl rfl rfl ha15 hb16 hc17 hd18) ?_
    obtain ⟨x19, hr20, h⟩ := h
    refine GL.val trivial rfl (OV.loadT (p := (p14.1, p14.2 + (x5.2 : Int).toNat * 4)) (cs := T_api_Value.c x19) rfl rfl rfl hr20) ?_
    refine GL.call h trivial rfl ok_law03_parts (vs := [.agg (T_api_Value.c x19).toArray]) rfl ?_
    rintro _ H22 ⟨r21, rfl, h⟩
    refine GL.val trivial rfl (OV.ibin (v := .int .i64 (w .i64 (x5.1 + r21))) rfl rfl rfl) ?_
    refine GL.val trivial rfl (OV.assign (v := .int .i64 (w .i64 (x5.1 + r21))) rfl) ?_
    refine GL.nil_to (fun _ _ h => h) ?_
    refine GC.region ?_
    refine GL.val trivial rfl (OV.move (v := .int .i64 x5.2) rfl) ?_
    refine GL.val trivial rfl (OV.ibin (v := .int .i64 (w .i64 (x5.2 + 1))) rfl rfl rfl) ?_
    refine GL.val trivial rfl (OV.assign (v := .int .i64 (w .i64 (x5.2 + 1))) rfl) ?_
    exact GL.jump (fun _ _ h => h) ((w .i64 (x5.1 + r21)), (w .i64 (x5.2 + 1))) h ⟨rfl, rfl, rfl, trivial⟩
  · replace h := And.right h hc11
    refine GC.exit_to (fun _ _ h => h) ?_
    refine GC.seq ?_
    refine GC.region ?_
    refine GL.val trivial rfl (OV.move (v := .int .i64 x5.1) rfl) ?_
    refine GL.val trivial rfl (OV.assign (v := .int .i64 x5.1) rfl) ?_
    refine GL.nil ?_
    exact GC.ret (fun _ _ hf hs => post_tmp1 rfl rfl hf hs ⟨x5.1, rfl, h⟩)

def sh_code_behind (C : Ctx) (p_b : Sl) (K : Option (Nat × Nat) → Heap → Prop) (H : Heap) : Prop :=
  c_slices_Clone_byte_byte C p_b (fun r1 H2 =>
 nw (T_code_pen.c (⟨r1, 0⟩ : T_code_pen)) (fun b3 H4 =>
 K (some (b3, 0)) H4) H2) H

theorem ad_code_behind (C : Ctx) (p_b : Sl) (K : Option (Nat × Nat) → Heap → Prop) (H : Heap) (h : sh_code_behind C p_b K H) : c_code_behind C p_b K H := by
  refine Spec.enter Tryd.func43 rfl Tryd.ntmps43 rfl ?_
  refine GC.sub [(0, slv p_b)] ⟨rfl, trivial⟩ ?_
  refine GC.seq ?_
  refine GC.region ?_
  refine GL.val trivial rfl (OV.assign (v := pv none) rfl) ?_
  refine GL.nil ?_
  refine GC.seq ?_
  refine GC.region ?_
  refine GL.val trivial rfl (OV.move (v := slv p_b) rfl) ?_
  refine GL.call h trivial rfl ok_slices_Clone_byte_byte (vs := [slv p_b]) rfl ?_
  rintro _ H2 ⟨r1, rfl, h⟩
  refine GL.val trivial rfl (OV.build (vs := [(0, slv r1)]) (v := .agg (T_code_pen.c (⟨r1, 0⟩ : T_code_pen)).toArray) rfl (fun _ => by kernel_rfl)) ?_
  refine GL.box (v := .agg (T_code_pen.c (⟨r1, 0⟩ : T_code_pen)).toArray) (cs := T_code_pen.c (⟨r1, 0⟩ : T_code_pen)) h trivial rfl rfl rfl ?_
  intro b3 H4 h
  refine GL.val trivial rfl (OV.assign (v := pv (some (b3, 0))) rfl) ?_
  refine GL.nil ?_
  exact GC.ret (fun _ _ hf hs => post_tmp1 rfl rfl hf hs ⟨(some (b3, 0)), rfl, h⟩)

def sh_code_pen_num (C : Ctx) (p_p : Option (Nat × Nat)) (p_n : Int) (K : Heap → Prop) (H : Heap) : Prop :=
  jn (α := Int) (fun x2 H3 =>
 c_code_pen_flip C p_p (decide ((p_n : Int) < 0)) (fun H6 =>
 c_code_pen_number C p_p 128 (w .u64 x2) (fun H7 =>
 c_code_pen_flip C p_p (decide ((p_n : Int) < 0)) (fun H8 =>
 K H8) H7) H6) H3)
 (fun J1 => ift (decide ((p_n : Int) < 0))
 (J1 (bXor .i64 (-1) p_n) H)
 (J1 p_n H))

theorem ad_code_pen_num (C : Ctx) (p_p : Option (Nat × Nat)) (p_n : Int) (K : Heap → Prop) (H : Heap) (h : sh_code_pen_num C p_p p_n K H) : c_code_pen_num C p_p p_n K H := by
  refine Spec.enter Tryd.func44 rfl Tryd.ntmps44 rfl ?_
  refine GC.sub [(0, pv p_p), (1, .int .i64 p_n)] ⟨rfl, rfl, trivial⟩ ?_
  refine GC.seq ?_
  refine GC.region ?_
  refine GL.val trivial rfl (OV.move (v := .int .i64 p_n) rfl) ?_
  refine GL.val trivial rfl (OV.ibin (v := .bool (decide ((p_n : Int) < 0))) rfl rfl rfl) ?_
  refine GL.val trivial rfl (OV.assign (v := .bool (decide ((p_n : Int) < 0))) rfl) ?_
  refine GL.nil ?_
  obtain ⟨J1, h, hR4⟩ := h
  refine GC.join (α := Int) J1 (fun x2 => [(1, .int .i64 x2), (0, pv p_p), (4, .bool (decide ((p_n : Int) < 0)))]) ?_ ?_
  · skip
    refine GC.seq ?_
    refine GC.region ?_
    refine GL.val trivial rfl (OV.move (v := .bool (decide ((p_n : Int) < 0))) rfl) ?_
    refine GL.nil ?_
    refine GC.cond (b := decide ((p_n : Int) < 0)) rfl (fun hc5 => ?_) (fun hc5 => ?_)
    · replace h := And.left h hc5
      refine GC.region ?_
      refine GL.val trivial rfl (OV.move (v := .int .i64 p_n) rfl) ?_
      refine GL.val trivial rfl (OV.iun (v := .int .i64 (bXor .i64 (-1) p_n)) rfl rfl) ?_
      refine GL.val trivial rfl (OV.assign (v := .int .i64 (bXor .i64 (-1) p_n)) rfl) ?_
      exact GL.jump (fun _ _ h => h) (bXor .i64 (-1) p_n) h ⟨rfl, rfl, rfl, trivial⟩
    · replace h := And.right h hc5
      exact GC.jump (fun _ _ h => h) p_n h ⟨rfl, rfl, rfl, trivial⟩
  · intro x2 H3 h
    replace h := hR4 x2 H3 h
    refine GC.seq ?_
    refine GC.region ?_
    refine GL.val trivial rfl (OV.move (v := pv p_p) rfl) ?_
    refine GL.val trivial rfl (OV.move (v := .bool (decide ((p_n : Int) < 0))) rfl) ?_
    refine GL.call h trivial rfl ok_code_pen_flip (vs := [pv p_p, .bool (decide ((p_n : Int) < 0))]) rfl ?_
    rintro _ H6 ⟨rfl, h⟩
    refine GL.nil ?_
    refine GC.seq ?_
    refine GC.region ?_
    refine GL.val trivial rfl (OV.move (v := pv p_p) rfl) ?_
    refine GL.val trivial rfl (OV.move (v := .int .i64 x2) rfl) ?_
    refine GL.val trivial rfl (OV.convInt rfl rfl rfl) ?_
    refine GL.call h trivial rfl ok_code_pen_number (vs := [pv p_p, .int .u8 128, .int .u64 (w .u64 x2)]) rfl ?_
    rintro _ H7 ⟨rfl, h⟩
    refine GL.nil ?_
    refine GC.region ?_
    refine GL.val trivial rfl (OV.move (v := pv p_p) rfl) ?_
    refine GL.val trivial rfl (OV.move (v := .bool (decide ((p_n : Int) < 0))) rfl) ?_
    refine GL.call h trivial rfl ok_code_pen_flip (vs := [pv p_p, .bool (decide ((p_n : Int) < 0))]) rfl ?_
    rintro _ H8 ⟨rfl, h⟩
    exact GL.ends (fun _ _ hf hs => post_tmp0 rfl hf hs ⟨rfl, h⟩)

def sh_ref03_with (C : Ctx) (p_b : Sl) (p_c : Sl) (K : Sl → Heap → Prop) (H : Heap) : Prop :=
  nw ([]) (fun b1 H2 =>
 apS ([.int .u8 0]) 1 (Sl.of (some (b1, 0)) 0 0) p_b (fun r3 H4 =>
 apS ([.int .u8 0]) 1 r3 p_c (fun r5 H6 =>
 K r5 H6) H4) H2) H

theorem ad_ref03_with (C : Ctx) (p_b : Sl) (p_c : Sl) (K : Sl → Heap → Prop) (H : Heap) (h : sh_ref03_with C p_b p_c K H) : c_ref03_with C p_b p_c K H := by
  refine Spec.enter Tryd.func45 rfl Tryd.ntmps45 rfl ?_
  refine GC.sub [(0, slv p_b), (1, slv p_c)] ⟨rfl, rfl, trivial⟩ ?_
  refine GC.seq ?_
  refine GC.region ?_
  refine GL.val trivial rfl (OV.assign (v := slv Sl.nil) rfl) ?_
  refine GL.nil ?_
  refine GC.seq ?_
  refine GC.region ?_
  refine GL.buildSlice (cs := []) h trivial rfl (vs := []) rfl ⟨5, fun _ => by kernel_rfl⟩ ?_
  intro b1 H2 h
  refine GL.val trivial rfl (OV.move (v := slv p_b) rfl) ?_
  refine GL.appendS (s := (Sl.of (some (b1, 0)) 0 0)) (s2 := p_b) (zc := [.int .u8 0]) (bytes := 1) h trivial rfl rfl rfl ⟨⟨_, _, _, rfl, rfl, rfl, rfl, rfl, rfl⟩⟩ rfl ?_
  intro r3 H4 h
  refine GL.val trivial rfl (OV.move (v := slv p_c) rfl) ?_
  refine GL.appendS (s := r3) (s2 := p_c) (zc := [.int .u8 0]) (bytes := 1) h trivial rfl rfl rfl ⟨⟨_, _, _, rfl, rfl, rfl, rfl, rfl, rfl⟩⟩ rfl ?_
  intro r5 H6 h
  refine GL.val trivial rfl (OV.assign (v := slv r5) rfl) ?_
  refine GL.nil ?_
  exact GC.ret (fun _ _ hf hs => post_tmp1 rfl rfl hf hs ⟨r5, rfl, h⟩)

def sh_ref03_turned (C : Ctx) (p_b : Sl) (K : Sl → Heap → Prop) (H : Heap) : Prop :=
  lp (α := Sl × Int) (Sl.nil, 0) H (fun x1 J2 H3 =>
 ift (decide ((x1.2 : Int) < (Sl.len p_b : Int)))
 (ixa p_b x1.2 fun p5 =>
 ldI H3 .u8 (p5.1, p5.2 + (x1.2 : Int).toNat * 1) fun x10 =>
 apd ([.int .u8 0]) 1 x1.1 ([.int .u8 (w .u8 (255 - x10))]) 1 (fun r12 H13 =>
 J2 (r12, (w .i64 (x1.2 + 1))) H13) H3)
 (K x1.1 H3))

theorem ad_ref03_turned (C : Ctx) (p_b : Sl) (K : Sl → Heap → Prop) (H : Heap) (h : sh_ref03_turned C p_b K H) : c_ref03_turned C p_b K H := by
  refine Spec.enter Tryd.func46 rfl Tryd.ntmps46 rfl ?_
  refine GC.sub [(0, slv p_b)] ⟨rfl, trivial⟩ ?_
  refine GC.seq ?_
  refine GC.region ?_
  refine GL.val trivial rfl (OV.assign (v := slv Sl.nil) rfl) ?_
  refine GL.nil ?_
  refine GC.seq ?_
  refine GC.region ?_
  refine GL.val trivial rfl (OV.assign (v := slv Sl.nil) rfl) ?_
  refine GL.nil ?_
  refine GC.seq ?_
  refine GC.seq ?_
  refine GC.region ?_
  refine GL.val trivial rfl (OV.assign (v := .int .i64 0) rfl) ?_
  refine GL.nil ?_
  refine GC.block ?_
  refine GC.loop (α := Sl × Int) h (fun x1 => [(3, slv x1.1), (4, .int .i64 x1.2), (0, slv p_b)]) ⟨rfl, rfl, rfl, trivial⟩ ?_
  intro x1 H3 J2 h
  refine GC.seq ?_
  refine GC.seq ?_
  refine GC.region ?_
  refine GL.val trivial rfl (OV.move (v := .int .i64 x1.2) rfl) ?_
  refine GL.val trivial rfl (OV.move (v := slv p_b) rfl) ?_
  refine GL.val trivial rfl (OV.lenSl (s := p_b) rfl rfl) ?_
  refine GL.val trivial rfl (OV.ibin (v := .bool (decide ((x1.2 : Int) < (Sl.len p_b : Int)))) rfl rfl rfl) ?_
  refine GL.nil ?_
  refine GC.cond (b := decide ((x1.2 : Int) < (Sl.len p_b : Int))) rfl (fun hc4 => ?_) (fun hc4 => ?_)
  · replace h := And.left h hc4
    refine GC.skip ?_
    refine GC.seq ?_
    refine GC.block ?_
    refine GC.region ?_
    refine GL.val trivial rfl (OV.move (v := slv x1.1) rfl) ?_
    refine GL.val trivial rfl (OV.move (v := slv p_b) rfl) ?_
    refine GL.val trivial rfl (OV.move (v := .int .i64 x1.2) rfl) ?_
    obtain ⟨p5, ha6, hb7, hc8, hd9, h⟩ := h
    refine GL.val trivial rfl (OV.indexAddr (s := p_b) rfl rfl rfl rfl ha6 hb7 hc8 hd9) ?_
    obtain ⟨x10, hr11, h⟩ := h
    refine GL.val trivial rfl (OV.load (p := (p5.1, p5.2 + (x1.2 : Int).toNat * 1)) rfl rfl hr11) ?_
    refine GL.val trivial rfl (OV.ibin (v := .int .u8 (w .u8 (255 - x10))) rfl rfl rfl) ?_
    refine GL.appendLit (s := x1.1) (ys := [.int .u8 (w .u8 (255 - x10))]) (zc := [.int .u8 0]) (bytes := 1) h trivial rfl (fun _ => trivial) rfl (fun _ => rfl) (fun _ => rfl) (vs := [(0, .int .u8 (w .u8 (255 - x10)))]) rfl ⟨5, fun _ => by kernel_rfl⟩ ⟨⟨_, _, _, rfl, rfl, rfl, rfl, rfl, rfl⟩⟩ rfl rfl ?_
    intro _ r12 H13 h
    refine GL.val trivial rfl (OV.assign (v := slv r12) rfl) ?_
    refine GL.nil_to (fun _ _ h => h) ?_
    refine GC.region ?_
    refine GL.val trivial rfl (OV.move (v := .int .i64 x1.2) rfl) ?_
    refine GL.val trivial rfl (OV.ibin (v := .int .i64 (w .i64 (x1.2 + 1))) rfl rfl rfl) ?_
    refine GL.val trivial rfl (OV.assign (v := .int .i64 (w .i64 (x1.2 + 1))) rfl) ?_
    exact GL.jump (fun _ _ h => h) (r12, (w .i64 (x1.2 + 1))) h ⟨rfl, rfl, rfl, trivial⟩
  · replace h := And.right h hc4
    refine GC.exit_to (fun _ _ h => h) ?_
    refine GC.seq ?_
    refine GC.region ?_
    refine GL.val trivial rfl (OV.move (v := slv x1.1) rfl) ?_
    refine GL.val trivial rfl (OV.assign (v := slv x1.1) rfl) ?_
    refine GL.nil ?_
    exact GC.ret (fun _ _ hf hs => post_tmp1 rfl rfl hf hs ⟨x1.1, rfl, h⟩)

def sh_ref03_digits (C : Ctx) (p_u : Int) (K : Sl → Heap → Prop) (H : Heap) : Prop :=
  lp (α := Int × Sl) (p_u, Sl.nil) H (fun x1 J2 H3 =>
 ift (decide ((x1.1 : Int) > 0))
 (nw ([.int .u8 (w .u8 (Int.tmod x1.1 256))]) (fun b5 H6 =>
 apS ([.int .u8 0]) 1 (Sl.of (some (b5, 0)) 1 1) x1.2 (fun r7 H8 =>
 J2 ((w .u64 (Int.tdiv x1.1 256)), r7) H8) H6) H3)
 (K x1.2 H3))

theorem ad_ref03_digits (C : Ctx) (p_u : Int) (K : Sl → Heap → Prop) (H : Heap) (h : sh_ref03_digits C p_u K H) : c_ref03_digits C p_u K H := by
  refine Spec.enter Tryd.func47 rfl Tryd.ntmps47 rfl ?_
  refine GC.sub [(0, .int .u64 p_u)] ⟨rfl, trivial⟩ ?_
  refine GC.seq ?_
  refine GC.region ?_
  refine GL.val trivial rfl (OV.assign (v := slv Sl.nil) rfl) ?_
  refine GL.nil ?_
  refine GC.seq ?_
  refine GC.region ?_
  refine GL.val trivial rfl (OV.assign (v := slv Sl.nil) rfl) ?_
  refine GL.nil ?_
  refine GC.seq ?_
  refine GC.block ?_
  refine GC.loop (α := Int × Sl) h (fun x1 => [(0, .int .u64 x1.1), (3, slv x1.2)]) ⟨rfl, rfl, trivial⟩ ?_
  intro x1 H3 J2 h
  refine GC.seq ?_
  refine GC.seq ?_
  refine GC.region ?_
  refine GL.val trivial rfl (OV.move (v := .int .u64 x1.1) rfl) ?_
  refine GL.val trivial rfl (OV.ibin (v := .bool (decide ((x1.1 : Int) > 0))) rfl rfl rfl) ?_
  refine GL.nil ?_
  refine GC.cond (b := decide ((x1.1 : Int) > 0)) rfl (fun hc4 => ?_) (fun hc4 => ?_)
  · replace h := And.left h hc4
    refine GC.skip ?_
    refine GC.block ?_
    refine GC.seq ?_
    refine GC.region ?_
    refine GL.val trivial rfl (OV.move (v := .int .u64 x1.1) rfl) ?_
    refine GL.val trivial rfl (OV.rem rfl rfl (by decide)) ?_
    refine GL.val trivial rfl (OV.convInt rfl rfl rfl) ?_
    refine GL.buildSlice (cs := [.int .u8 (w .u8 (Int.tmod x1.1 256))]) h trivial rfl (vs := [(0, .int .u8 (w .u8 (Int.tmod x1.1 256)))]) rfl ⟨5, fun _ => by kernel_rfl⟩ ?_
    intro b5 H6 h
    refine GL.val trivial rfl (OV.move (v := slv x1.2) rfl) ?_
    refine GL.appendS (s := (Sl.of (some (b5, 0)) 1 1)) (s2 := x1.2) (zc := [.int .u8 0]) (bytes := 1) h trivial rfl rfl rfl ⟨⟨_, _, _, rfl, rfl, rfl, rfl, rfl, rfl⟩⟩ rfl ?_
    intro r7 H8 h
    refine GL.val trivial rfl (OV.assign (v := slv r7) rfl) ?_
    refine GL.nil ?_
    refine GC.region ?_
    refine GL.val trivial rfl (OV.move (v := .int .u64 x1.1) rfl) ?_
    refine GL.val trivial rfl (OV.quo rfl rfl (by decide)) ?_
    refine GL.val trivial rfl (OV.assign (v := .int .u64 (w .u64 (Int.tdiv x1.1 256))) rfl) ?_
    exact GL.jump (fun _ _ h => h) ((w .u64 (Int.tdiv x1.1 256)), r7) h ⟨rfl, rfl, trivial⟩
  · replace h := And.right h hc4
    refine GC.exit_to (fun _ _ h => h) ?_
    refine GC.seq ?_
    refine GC.region ?_
    refine GL.val trivial rfl (OV.move (v := slv x1.2) rfl) ?_
    refine GL.val trivial rfl (OV.assign (v := slv x1.2) rfl) ?_
    refine GL.nil ?_
    exact GC.ret (fun _ _ hf hs => post_tmp1 rfl rfl hf hs ⟨x1.2, rfl, h⟩)

def sh_code_pen_number (C : Ctx) (p_p : Option (Nat × Nat)) (p_first : Int) (p_u : Int) (K : Heap → Prop) (H : Heap) : Prop :=
  c_math_bits_Len64 C p_u (fun r1 H2 =>
 nw ([.int .u8 (w .u8 (p_first + (w .u8 (w .i64 (Int.tdiv (w .i64 (r1 + 7)) 8)))))]) (fun b3 H4 =>
 c_code_pen_put C p_p (Sl.of (some (b3, 0)) 1 1) (fun H5 =>
 lp (α := Int) (w .i64 (Int.tdiv (w .i64 (r1 + 7)) 8)) H5 (fun x6 J7 H8 =>
 ift (decide ((x6 : Int) > 0))
 (0 ≤ (w .i64 (8 * (w .i64 (x6 - 1)))) ∧
 nw ([.int .u8 (w .u8 (sShr .u64 p_u (w .i64 (8 * (w .i64 (x6 - 1))))))]) (fun b11 H12 =>
 c_code_pen_put C p_p (Sl.of (some (b11, 0)) 1 1) (fun H13 =>
 J7 (w .i64 (x6 - 1)) H13) H12) H8)
 (K H8))) H4) H2) H

theorem ad_code_pen_number (C : Ctx) (p_p : Option (Nat × Nat)) (p_first : Int) (p_u : Int) (K : Heap → Prop) (H : Heap) (h : sh_code_pen_number C p_p p_first p_u K H) : c_code_pen_number C p_p p_first p_u K H := by
  refine Spec.enter Tryd.func48 rfl Tryd.ntmps48 rfl ?_
  refine GC.sub [(0, pv p_p), (1, .int .u8 p_first), (2, .int .u64 p_u)] ⟨rfl, rfl, rfl, trivial⟩ ?_
  refine GC.seq ?_
  refine GC.region ?_
  refine GL.val trivial rfl (OV.move (v := .int .u64 p_u) rfl) ?_
  refine GL.call h trivial rfl ok_math_bits_Len64 (vs := [.int .u64 p_u]) rfl ?_
  rintro _ H2 ⟨r1, rfl, h⟩
  refine GL.val trivial rfl (OV.ibin (v := .int .i64 (w .i64 (r1 + 7))) rfl rfl rfl) ?_
  refine GL.val trivial rfl (OV.quo rfl rfl (by decide)) ?_
  refine GL.val trivial rfl (OV.assign (v := .int .i64 (w .i64 (Int.tdiv (w .i64 (r1 + 7)) 8))) rfl) ?_
  refine GL.nil ?_
  refine GC.seq ?_
  refine GC.region ?_
  refine GL.val trivial rfl (OV.move (v := pv p_p) rfl) ?_
  refine GL.val trivial rfl (OV.move (v := .int .u8 p_first) rfl) ?_
  refine GL.val trivial rfl (OV.move (v := .int .i64 (w .i64 (Int.tdiv (w .i64 (r1 + 7)) 8))) rfl) ?_
  refine GL.val trivial rfl (OV.convInt rfl rfl rfl) ?_
  refine GL.val trivial rfl (OV.ibin (v := .int .u8 (w .u8 (p_first + (w .u8 (w .i64 (Int.tdiv (w .i64 (r1 + 7)) 8)))))) rfl rfl rfl) ?_
  refine GL.buildSlice (cs := [.int .u8 (w .u8 (p_first + (w .u8 (w .i64 (Int.tdiv (w .i64 (r1 + 7)) 8)))))]) h trivial rfl (vs := [(0, .int .u8 (w .u8 (p_first + (w .u8 (w .i64 (Int.tdiv (w .i64 (r1 + 7)) 8))))))]) rfl ⟨5, fun _ => by kernel_rfl⟩ ?_
  intro b3 H4 h
  refine GL.call h trivial rfl ok_code_pen_put (vs := [pv p_p, slv (Sl.of (some (b3, 0)) 1 1)]) rfl ?_
  rintro _ H5 ⟨rfl, h⟩
  refine GL.nil ?_
  refine GC.block ?_
  refine GC.loop (α := Int) h (fun x6 => [(6, .int .i64 x6), (0, pv p_p), (2, .int .u64 p_u)]) ⟨rfl, rfl, rfl, trivial⟩ ?_
  intro x6 H8 J7 h
  refine GC.seq ?_
  refine GC.seq ?_
  refine GC.region ?_
  refine GL.val trivial rfl (OV.move (v := .int .i64 x6) rfl) ?_
  refine GL.val trivial rfl (OV.ibin (v := .bool (decide ((x6 : Int) > 0))) rfl rfl rfl) ?_
  refine GL.nil ?_
  refine GC.cond (b := decide ((x6 : Int) > 0)) rfl (fun hc9 => ?_) (fun hc9 => ?_)
  · replace h := And.left h hc9
    refine GC.skip ?_
    refine GC.seq ?_
    refine GC.block ?_
    refine GC.region ?_
    refine GL.val trivial rfl (OV.move (v := pv p_p) rfl) ?_
    refine GL.val trivial rfl (OV.move (v := .int .u64 p_u) rfl) ?_
    refine GL.val trivial rfl (OV.move (v := .int .i64 x6) rfl) ?_
    refine GL.val trivial rfl (OV.ibin (v := .int .i64 (w .i64 (x6 - 1))) rfl rfl rfl) ?_
    refine GL.val trivial rfl (OV.ibin (v := .int .i64 (w .i64 (8 * (w .i64 (x6 - 1))))) rfl rfl rfl) ?_
    obtain ⟨hb10, h⟩ := h
    refine GL.val trivial rfl (OV.shr rfl rfl hb10) ?_
    refine GL.val trivial rfl (OV.convInt rfl rfl rfl) ?_
    refine GL.buildSlice (cs := [.int .u8 (w .u8 (sShr .u64 p_u (w .i64 (8 * (w .i64 (x6 - 1))))))]) h trivial rfl (vs := [(0, .int .u8 (w .u8 (sShr .u64 p_u (w .i64 (8 * (w .i64 (x6 - 1)))))))]) rfl ⟨5, fun _ => by kernel_rfl⟩ ?_
    intro b11 H12 h
    refine GL.call h trivial rfl ok_code_pen_put (vs := [pv p_p, slv (Sl.of (some (b11, 0)) 1 1)]) rfl ?_
    rintro _ H13 ⟨rfl, h⟩
    refine GL.nil_to (fun _ _ h => h) ?_
    refine GC.region ?_
    refine GL.val trivial rfl (OV.move (v := .int .i64 x6) rfl) ?_
    refine GL.val trivial rfl (OV.ibin (v := .int .i64 (w .i64 (x6 - 1))) rfl rfl rfl) ?_
    refine GL.val trivial rfl (OV.assign (v := .int .i64 (w .i64 (x6 - 1))) rfl) ?_
    exact GL.jump (fun _ _ h => h) (w .i64 (x6 - 1)) h ⟨rfl, rfl, rfl, trivial⟩
  · replace h := And.right h hc9
    exact GC.exit_ends (fun _ _ hf hs => post_tmp0 rfl hf hs ⟨rfl, h⟩)

def sh_code_pen_text (C : Ctx) (p_p : Option (Nat × Nat)) (p_s : Str) (K : Heap → Prop) (H : Heap) : Prop :=
  lp (α := Int) 0 H (fun x1 J2 H3 =>
 ift (decide ((x1 : Int) < (List.length p_s : Int)))
 (jn (α := Unit) (fun x6 H7 =>
 J2 (w .i64 (x1 + 1)) H7)
 (fun J5 => ixs p_s x1 fun c9 =>
 nw ([.int .u8 (c9.toNat : Int)]) (fun b12 H13 =>
 c_code_pen_put C p_p (Sl.of (some (b12, 0)) 1 1) (fun H14 =>
 ixs p_s x1 fun c15 =>
 ift (((c15.toNat : Int) : Int) == 0)
 (nw ([.int .u8 255]) (fun b19 H20 =>
 c_code_pen_put C p_p (Sl.of (some (b19, 0)) 1 1) (fun H21 =>
 J5 () H21) H20) H14)
 (J5 () H14)) H13) H3))
 (nw ([.int .u8 0, .int .u8 0]) (fun b22 H23 =>
 c_code_pen_put C p_p (Sl.of (some (b22, 0)) 2 2) (fun H24 =>
 K H24) H23) H3))

theorem ad_code_pen_text (C : Ctx) (p_p : Option (Nat × Nat)) (p_s : Str) (K : Heap → Prop) (H : Heap) (h : sh_code_pen_text C p_p p_s K H) : c_code_pen_text C p_p p_s K H := by
  refine Spec.enter Tryd.func49 rfl Tryd.ntmps49 rfl ?_
  refine GC.sub [(0, pv p_p), (1, sv p_s)] ⟨rfl, rfl, trivial⟩ ?_
  refine GC.seq ?_
  refine GC.seq ?_
  refine GC.region ?_
  refine GL.val trivial rfl (OV.move (v := sv p_s) rfl) ?_
  refine GL.val trivial rfl (OV.lenStr (s := p_s) rfl rfl) ?_
  refine GL.val trivial rfl (OV.move (v := .int .i64 0) rfl) ?_
  refine GL.nil ?_
  refine GC.block ?_
  refine GC.loop (α := Int) h (fun x1 => [(7, .int .i64 x1), (0, pv p_p), (1, sv p_s), (6, .int .i64 (List.length p_s : Int))]) ⟨rfl, rfl, rfl, rfl, trivial⟩ ?_
  intro x1 H3 J2 h
  refine GC.seq ?_
  refine GC.region ?_
  refine GL.val trivial rfl (OV.ibin (v := .bool (decide ((x1 : Int) < (List.length p_s : Int)))) rfl rfl rfl) ?_
  refine GL.nil ?_
  refine GC.seq ?_
  refine GC.cond (b := decide ((x1 : Int) < (List.length p_s : Int))) rfl (fun hc4 => ?_) (fun hc4 => ?_)
  · replace h := And.left h hc4
    refine GC.skip ?_
    obtain ⟨J5, h, hR8⟩ := h
    refine GC.join (α := Unit) J5 (fun _ => [(0, pv p_p), (1, sv p_s), (6, .int .i64 (List.length p_s : Int)), (7, .int .i64 x1)]) ?_ ?_
    · skip
      refine GC.block ?_
      refine GC.seq ?_
      refine GC.region ?_
      refine GL.val trivial rfl (OV.move (v := .int .i64 x1) rfl) ?_
      refine GL.val trivial rfl (OV.assign (v := .int .i64 x1) rfl) ?_
      refine GL.nil ?_
      refine GC.seq ?_
      refine GC.region ?_
      refine GL.val trivial rfl (OV.move (v := pv p_p) rfl) ?_
      refine GL.val trivial rfl (OV.move (v := sv p_s) rfl) ?_
      refine GL.val trivial rfl (OV.move (v := .int .i64 x1) rfl) ?_
      obtain ⟨c9, ha10, hb11, h⟩ := h
      refine GL.val trivial rfl (OV.indexStr (s := p_s) rfl rfl rfl ha10 hb11) ?_
      refine GL.buildSlice (cs := [.int .u8 (c9.toNat : Int)]) h trivial rfl (vs := [(0, .int .u8 (c9.toNat : Int))]) rfl ⟨5, fun _ => by kernel_rfl⟩ ?_
      intro b12 H13 h
      refine GL.call h trivial rfl ok_code_pen_put (vs := [pv p_p, slv (Sl.of (some (b12, 0)) 1 1)]) rfl ?_
      rintro _ H14 ⟨rfl, h⟩
      refine GL.nil ?_
      refine GC.seq ?_
      refine GC.region ?_
      refine GL.val trivial rfl (OV.move (v := sv p_s) rfl) ?_
      refine GL.val trivial rfl (OV.move (v := .int .i64 x1) rfl) ?_
      obtain ⟨c15, ha16, hb17, h⟩ := h
      refine GL.val trivial rfl (OV.indexStr (s := p_s) rfl rfl rfl ha16 hb17) ?_
      refine GL.val trivial rfl (OV.ibin (v := .bool (((c15.toNat : Int) : Int) == 0)) rfl rfl rfl) ?_
      refine GL.nil ?_
      refine GC.cond (b := ((c15.toNat : Int) : Int) == 0) rfl (fun hc18 => ?_) (fun hc18 => ?_)
      · replace h := And.left h hc18
        refine GC.region ?_
        refine GL.val trivial rfl (OV.move (v := pv p_p) rfl) ?_
        refine GL.buildSlice (cs := [.int .u8 255]) h trivial rfl (vs := [(0, .int .u8 255)]) rfl ⟨5, fun _ => by kernel_rfl⟩ ?_
        intro b19 H20 h
        refine GL.call h trivial rfl ok_code_pen_put (vs := [pv p_p, slv (Sl.of (some (b19, 0)) 1 1)]) rfl ?_
        rintro _ H21 ⟨rfl, h⟩
        exact GL.jump (fun _ _ h => h) () h ⟨rfl, rfl, rfl, rfl, trivial⟩
      · replace h := And.right h hc18
        exact GC.jump (fun _ _ h => h) () h ⟨rfl, rfl, rfl, rfl, trivial⟩
    · intro x6 H7 h
      replace h := hR8 x6 H7 h
      refine GC.region ?_
      refine GL.val trivial rfl (OV.ibin (v := .int .i64 (w .i64 (x1 + 1))) rfl rfl rfl) ?_
      refine GL.val trivial rfl (OV.move (v := .int .i64 (w .i64 (x1 + 1))) rfl) ?_
      exact GL.jump (fun _ _ h => h) (w .i64 (x1 + 1)) h ⟨rfl, rfl, rfl, rfl, trivial⟩
  · replace h := And.right h hc4
    refine GC.exit_to (fun _ _ h => h) ?_
    refine GC.region ?_
    refine GL.val trivial rfl (OV.move (v := pv p_p) rfl) ?_
    refine GL.buildSlice (cs := [.int .u8 0, .int .u8 0]) h trivial rfl (vs := [(0, .int .u8 0), (1, .int .u8 0)]) rfl ⟨5, fun _ => by kernel_rfl⟩ ?_
    intro b22 H23 h
    refine GL.call h trivial rfl ok_code_pen_put (vs := [pv p_p, slv (Sl.of (some (b22, 0)) 2 2)]) rfl ?_
    rintro _ H24 ⟨rfl, h⟩
    exact GL.ends (fun _ _ hf hs => post_tmp0 rfl hf hs ⟨rfl, h⟩)

def sh_code_pen_put (C : Ctx) (p_p : Option (Nat × Nat)) (p_l : Sl) (K : Heap → Prop) (H : Heap) : Prop :=
  lp (α := Int) 0 H (fun x1 J2 H3 =>
 ift (decide ((x1 : Int) < (Sl.len p_l : Int)))
 (ixa p_l x1 fun p5 =>
 ldI H3 .u8 (p5.1, p5.2 + (x1 : Int).toNat * 1) fun x10 =>
 dr H3 fun Hs12 =>
 nck p_p fun p14 =>
 ldL Hs12 (p14.1, p14.2 + 0) fun x16 =>
 nck p_p fun p18 =>
 ldI Hs12 .u8 (p18.1, p18.2 + 1) fun x20 =>
 nw ([.int .u8 (bXor .u8 x10 x20)]) (fun b23 H24 =>
 Heap.le Hs12 H24 ∧
 apS ([.int .u8 0]) 1 x16 (Sl.of (some (b23, 0)) 1 1) (fun r26 H27 =>
 Heap.le Hs12 H27 ∧
 nck p_p fun p28 =>
 st (p28.1, p28.2 + 0) (slv r26) (fun H30 =>
 J2 (w .i64 (x1 + 1)) H30) H27) H24) H3)
 (K H3))

theorem ad_code_pen_put (C : Ctx) (p_p : Option (Nat × Nat)) (p_l : Sl) (K : Heap → Prop) (H : Heap) (h : sh_code_pen_put C p_p p_l K H) : c_code_pen_put C p_p p_l K H := by
  refine Spec.enter Tryd.func50 rfl Tryd.ntmps50 rfl ?_
  refine GC.sub [(0, pv p_p), (1, slv p_l)] ⟨rfl, rfl, trivial⟩ ?_
  refine GC.seq ?_
  refine GC.region ?_
  refine GL.val trivial rfl (OV.move (v := slv p_l) rfl) ?_
  refine GL.val trivial rfl (OV.lenSl (s := p_l) rfl rfl) ?_
  refine GL.val trivial rfl (OV.move (v := .int .i64 0) rfl) ?_
  refine GL.nil ?_
  refine GC.block ?_
  refine GC.loop (α := Int) h (fun x1 => [(8, .int .i64 x1), (0, pv p_p), (6, slv p_l), (7, .int .i64 (Sl.len p_l : Int))]) ⟨rfl, rfl, rfl, rfl, trivial⟩ ?_
  intro x1 H3 J2 h
  refine GC.seq ?_
  refine GC.region ?_
  refine GL.val trivial rfl (OV.ibin (v := .bool (decide ((x1 : Int) < (Sl.len p_l : Int)))) rfl rfl rfl) ?_
  refine GL.nil ?_
  refine GC.seq ?_
  refine GC.cond (b := decide ((x1 : Int) < (Sl.len p_l : Int))) rfl (fun hc4 => ?_) (fun hc4 => ?_)
  · replace h := And.left h hc4
    refine GC.skip ?_
    refine GC.seq ?_
    refine GC.block ?_
    refine GC.seq ?_
    refine GC.region ?_
    obtain ⟨p5, ha6, hb7, hc8, hd9, h⟩ := h
    refine GL.val trivial rfl (OV.indexAddr (s := p_l) rfl rfl rfl rfl ha6 hb7 hc8 hd9) ?_
    obtain ⟨x10, hr11, h⟩ := h
    refine GL.val trivial rfl (OV.load (p := (p5.1, p5.2 + (x1 : Int).toNat * 1)) rfl rfl hr11) ?_
    refine GL.val trivial rfl (OV.assign (v := .int .u8 x10) rfl) ?_
    refine GL.nil ?_
    obtain ⟨Hs12, hle13, h⟩ := h
    refine GC.tail (Hs := Hs12) 15 (by kernel_rfl) hle13 (by kernel_rfl) ?_
    refine GT.take 0 rfl (by kernel_rfl) (by kernel_rfl) (by kernel_rfl) rfl (fun _ _ _ h => by obtain ⟨_, _, _, h, _⟩ := h; cases h) trivial rfl (OV.move (v := pv p_p) rfl) ?_
    refine GT.take 1 rfl (by kernel_rfl) (by kernel_rfl) (by kernel_rfl) rfl (fun _ _ _ h => by obtain ⟨_, _, _, h, _⟩ := h; cases h) trivial rfl (OV.move (v := pv p_p) rfl) ?_
    obtain ⟨p14, hp15, h⟩ := h
    refine GT.take 2 rfl (by kernel_rfl) (by kernel_rfl) (by kernel_rfl) rfl (fun _ _ _ h => by obtain ⟨_, _, _, h, _⟩ := h; cases h) trivial rfl (OV.nilCheck (q := p_p) rfl hp15) ?_
    refine GT.take 3 rfl (by kernel_rfl) (by kernel_rfl) (by kernel_rfl) rfl (fun _ _ _ h => by obtain ⟨_, _, _, h, _⟩ := h; cases h) trivial rfl (OV.fieldAddr (p := p14) rfl rfl) ?_
    obtain ⟨x16, hr17, h⟩ := h
    refine GT.take 4 rfl (by kernel_rfl) (by kernel_rfl) (by kernel_rfl) rfl (fun _ _ _ h => by obtain ⟨_, _, _, h, _⟩ := h; cases h) trivial rfl (OV.load (p := (p14.1, p14.2 + 0)) rfl rfl hr17) ?_
    refine GT.take 5 rfl (by kernel_rfl) (by kernel_rfl) (by kernel_rfl) rfl (fun _ _ _ h => by obtain ⟨_, _, _, h, _⟩ := h; cases h) trivial rfl (OV.move (v := .int .u8 x10) rfl) ?_
    refine GT.take 6 rfl (by kernel_rfl) (by kernel_rfl) (by kernel_rfl) rfl (fun _ _ _ h => by obtain ⟨_, _, _, h, _⟩ := h; cases h) trivial rfl (OV.move (v := pv p_p) rfl) ?_
    obtain ⟨p18, hp19, h⟩ := h
    refine GT.take 7 rfl (by kernel_rfl) (by kernel_rfl) (by kernel_rfl) rfl (fun _ _ _ h => by obtain ⟨_, _, _, h, _⟩ := h; cases h) trivial rfl (OV.nilCheck (q := p_p) rfl hp19) ?_
    refine GT.take 8 rfl (by kernel_rfl) (by kernel_rfl) (by kernel_rfl) rfl (fun _ _ _ h => by obtain ⟨_, _, _, h, _⟩ := h; cases h) trivial rfl (OV.fieldAddr (p := p18) rfl rfl) ?_
    obtain ⟨x20, hr21, h⟩ := h
    refine GT.take 9 rfl (by kernel_rfl) (by kernel_rfl) (by kernel_rfl) rfl (fun _ _ _ h => by obtain ⟨_, _, _, h, _⟩ := h; cases h) trivial rfl (OV.load (p := (p18.1, p18.2 + 1)) rfl rfl hr21) ?_
    refine GT.take 10 rfl (by kernel_rfl) (by kernel_rfl) (by kernel_rfl) rfl (fun _ _ _ h => by obtain ⟨_, _, _, h, _⟩ := h; cases h) trivial rfl (OV.ibin (v := .int .u8 (bXor .u8 x10 x20)) rfl rfl rfl) ?_
    refine GT.eff 11 rfl (by kernel_rfl) rfl ?_
    refine GL.buildSlice (cs := [.int .u8 (bXor .u8 x10 x20)]) h trivial rfl (vs := [(0, .int .u8 (bXor .u8 x10 x20))]) rfl ⟨5, fun _ => by kernel_rfl⟩ ?_
    intro b23 H24 h
    obtain ⟨hle22, h⟩ := h
    refine GT.back hle22 ?_
    refine GT.eff 12 rfl (by kernel_rfl) rfl ?_
    refine GL.appendS (s := x16) (s2 := (Sl.of (some (b23, 0)) 1 1)) (zc := [.int .u8 0]) (bytes := 1) h trivial rfl rfl rfl ⟨⟨_, _, _, rfl, rfl, rfl, rfl, rfl, rfl⟩⟩ rfl ?_
    intro r26 H27 h
    obtain ⟨hle25, h⟩ := h
    refine GT.back hle25 ?_
    obtain ⟨p28, hp29, h⟩ := h
    refine GT.take 13 rfl (by kernel_rfl) (by kernel_rfl) (by kernel_rfl) rfl (fun _ _ _ h => by obtain ⟨_, _, _, h, _⟩ := h; cases h) trivial rfl (OV.nilCheck (q := p_p) rfl hp29) ?_
    refine GT.take 14 rfl (by kernel_rfl) (by kernel_rfl) (by kernel_rfl) rfl (fun _ _ _ h => by obtain ⟨_, _, _, h, _⟩ := h; cases h) trivial rfl (OV.fieldAddr (p := p28) rfl rfl) ?_
    refine GT.done (by kernel_rfl) ?_
    show GL _ _ _ _ _ [_] _ _
    refine GL.store (p := (p28.1, p28.2 + 0)) (v := slv r26) h trivial rfl rfl rfl rfl ?_
    intro H30 h
    refine GL.nil_to (fun _ _ h => h) ?_
    refine GC.region ?_
    refine GL.val trivial rfl (OV.ibin (v := .int .i64 (w .i64 (x1 + 1))) rfl rfl rfl) ?_
    refine GL.val trivial rfl (OV.move (v := .int .i64 (w .i64 (x1 + 1))) rfl) ?_
    exact GL.jump (fun _ _ h => h) (w .i64 (x1 + 1)) h ⟨rfl, rfl, rfl, rfl, trivial⟩
  · replace h := And.right h hc4
    exact GC.exit_ends (fun _ _ hf hs => post_tmp0 rfl hf hs ⟨rfl, h⟩)

def sh_value_Check (C : Ctx) (p_v : T_api_Value) (K : Int → Heap → Prop) (H : Heap) : Prop :=
  nw (T_api_Value.c p_v) (fun b1 H2 =>
 ldT H2 T_api_Value.c (b1, 0) fun x3 =>
 c_value_depth C x3 65 (fun r5 H6 =>
 ift (decide ((r5 : Int) > 64))
 (K 65 H6)
 (ldT H6 T_api_Value.c (b1, 0) fun x8 =>
 c_value_item_look C x8 (fun r10 r11 H12 =>
 ift (!r10)
 (K 4 H12)
 (ift (!r11)
 (K 40 H12)
 (K 0 H12))) H6)) H2) H

theorem ad_value_Check (C : Ctx) (p_v : T_api_Value) (K : Int → Heap → Prop) (H : Heap) (h : sh_value_Check C p_v K H) : c_value_Check C p_v K H := by
  refine Spec.enter Tryd.func51 rfl Tryd.ntmps51 rfl ?_
  refine GC.sub [(0, .agg (T_api_Value.c p_v).toArray)] ⟨rfl, trivial⟩ ?_
  refine GC.seq ?_
  refine GC.region ?_
  refine GL.box (v := .agg (T_api_Value.c p_v).toArray) (cs := T_api_Value.c p_v) h trivial rfl rfl rfl ?_
  intro b1 H2 h
  refine GL.val trivial rfl (OV.assign (v := .int .i64 0) rfl) ?_
  refine GL.nil ?_
  refine GC.seq ?_
  refine GC.seq ?_
  refine GC.region ?_
  obtain ⟨x3, hr4, h⟩ := h
  refine GL.val trivial rfl (OV.loadT (p := (b1, 0)) (cs := T_api_Value.c x3) rfl rfl rfl hr4) ?_
  refine GL.call h trivial rfl ok_value_depth (vs := [.agg (T_api_Value.c x3).toArray, .int .i64 65]) rfl ?_
  rintro _ H6 ⟨r5, rfl, h⟩
  refine GL.val trivial rfl (OV.ibin (v := .bool (decide ((r5 : Int) > 64))) rfl rfl rfl) ?_
  refine GL.nil ?_
  refine GC.cond (b := decide ((r5 : Int) > 64)) rfl (fun hc7 => ?_) (fun hc7 => ?_)
  · replace h := And.left h hc7
    refine GC.seq ?_
    refine GC.region ?_
    refine GL.val trivial rfl (OV.assign (v := .int .i64 65) rfl) ?_
    refine GL.nil ?_
    exact GC.ret (fun _ _ hf hs => post_tmp1 rfl rfl hf hs ⟨65, rfl, h⟩)
  · replace h := And.right h hc7
    refine GC.skip ?_
    refine GC.seq ?_
    refine GC.seq ?_
    refine GC.region ?_
    obtain ⟨x8, hr9, h⟩ := h
    refine GL.val trivial rfl (OV.loadT (p := (b1, 0)) (cs := T_api_Value.c x8) rfl rfl rfl hr9) ?_
    refine GL.call h trivial rfl ok_value_item_look (vs := [.agg (T_api_Value.c x8).toArray]) rfl ?_
    rintro _ H12 ⟨r10, r11, rfl, h⟩
    refine GL.val trivial rfl (OV.move (v := .tuple #[.bool r10, .bool r11]) rfl) ?_
    refine GL.val trivial rfl (OV.extract (v := .bool r10) rfl rfl) ?_
    refine GL.val trivial rfl (OV.extract (v := .bool r11) rfl rfl) ?_
    refine GL.val trivial rfl (OV.assign (v := .bool r10) rfl) ?_
    refine GL.val trivial rfl (OV.assign (v := .bool r11) rfl) ?_
    refine GL.nil ?_
    refine GC.block ?_
    refine GC.seq ?_
    refine GC.region ?_
    refine GL.val trivial rfl (OV.move (v := .bool r10) rfl) ?_
    refine GL.val trivial rfl (OV.not rfl) ?_
    refine GL.val trivial rfl (OV.assign (v := .bool (!r10)) rfl) ?_
    refine GL.nil ?_
    refine GC.cond (b := !r10) rfl (fun hc13 => ?_) (fun hc13 => ?_)
    · replace h := And.left h hc13
      refine GC.seq ?_
      refine GC.region ?_
      refine GL.val trivial rfl (OV.assign (v := .int .i64 4) rfl) ?_
      refine GL.nil ?_
      exact GC.ret (fun _ _ hf hs => post_tmp1 rfl rfl hf hs ⟨4, rfl, h⟩)
    · replace h := And.right h hc13
      refine GC.seq ?_
      refine GC.region ?_
      refine GL.val trivial rfl (OV.move (v := .bool r11) rfl) ?_
      refine GL.val trivial rfl (OV.not rfl) ?_
      refine GL.val trivial rfl (OV.assign (v := .bool (!r11)) rfl) ?_
      refine GL.nil ?_
      refine GC.cond (b := !r11) rfl (fun hc14 => ?_) (fun hc14 => ?_)
      · replace h := And.left h hc14
        refine GC.seq ?_
        refine GC.region ?_
        refine GL.val trivial rfl (OV.assign (v := .int .i64 40) rfl) ?_
        refine GL.nil ?_
        exact GC.ret (fun _ _ hf hs => post_tmp1 rfl rfl hf hs ⟨40, rfl, h⟩)
      · replace h := And.right h hc14
        refine GC.skip_to (fun _ _ h => h) ?_
        refine GC.seq ?_
        refine GC.region ?_
        refine GL.val trivial rfl (OV.assign (v := .int .i64 0) rfl) ?_
        refine GL.nil ?_
        exact GC.ret (fun _ _ hf hs => post_tmp1 rfl rfl hf hs ⟨0, rfl, h⟩)

def sh_code_pen_value (C : Ctx) (p_p : Option (Nat × Nat)) (p_v : T_api_Value) (K : Heap → Prop) (H : Heap) : Prop :=
  nw (T_api_Value.c p_v) (fun b1 H2 =>
 nw ((List.replicate 7 (.nilFunc : Value))) (fun b3 H4 =>
 stC 7 (b3, 0) [.nilFunc, .func (.func 72) (List.toArray []) (List.toArray []), .func (.func 73) (List.toArray []) (List.toArray []), .func (.func 74) (List.toArray []) (List.toArray []), .func (.func 75) (List.toArray []) (List.toArray []), .func (.func 76) (List.toArray []) (List.toArray []), .func (.func 77) (List.toArray []) (List.toArray [])] (fun H5 =>
 ldI H5 .u8 ((b1, 0).1, (b1, 0).2 + 0) fun x8 =>
 nw ([.int .u8 x8]) (fun b10 H11 =>
 c_code_pen_put C p_p (Sl.of (some (b10, 0)) 1 1) (fun H12 =>
 dr H12 fun Hs13 =>
 ldI Hs13 .u8 ((b1, 0).1, (b1, 0).2 + 0) fun x15 =>
 ixr (b3, 0) 7 x15 <|
 ldV Hs13 ((b3, 0).1, (b3, 0).2 + (x15 : Int).toNat * 1) fun x19 =>
 ldT Hs13 T_api_Value.c (b1, 0) fun x21 =>
 callU Tryd.prog C x19 [pv p_p, .agg (T_api_Value.c x21).toArray] H12 (fun v H24 => v = .tuple #[] ∧
 Heap.le Hs13 H24 ∧
 K H24)) H11) H5) H4) H2) H

theorem ad_code_pen_value (C : Ctx) (p_p : Option (Nat × Nat)) (p_v : T_api_Value) (K : Heap → Prop) (H : Heap) (h : sh_code_pen_value C p_p p_v K H) : c_code_pen_value C p_p p_v K H := by
  refine Spec.enter Tryd.func52 rfl Tryd.ntmps52 rfl ?_
  refine GC.sub [(0, pv p_p), (1, .agg (T_api_Value.c p_v).toArray)] ⟨rfl, rfl, trivial⟩ ?_
  refine GC.seq ?_
  refine GC.region ?_
  refine GL.box (v := .agg (T_api_Value.c p_v).toArray) (cs := T_api_Value.c p_v) h trivial rfl rfl rfl ?_
  intro b1 H2 h
  refine GL.nil ?_
  refine GC.seq ?_
  refine GC.region ?_
  refine GL.val trivial rfl (OV.build (vs := [(1, .func (.func 72) (List.toArray []) (List.toArray [])), (2, .func (.func 73) (List.toArray []) (List.toArray [])), (3, .func (.func 74) (List.toArray []) (List.toArray [])), (4, .func (.func 75) (List.toArray []) (List.toArray [])), (5, .func (.func 76) (List.toArray []) (List.toArray [])), (6, .func (.func 77) (List.toArray []) (List.toArray []))]) (v := .agg (List.toArray [.nilFunc, .func (.func 72) (List.toArray []) (List.toArray []), .func (.func 73) (List.toArray []) (List.toArray []), .func (.func 74) (List.toArray []) (List.toArray []), .func (.func 75) (List.toArray []) (List.toArray []), .func (.func 76) (List.toArray []) (List.toArray []), .func (.func 77) (List.toArray []) (List.toArray [])])) rfl (fun _ => by kernel_rfl)) ?_
  refine GL.alloc (cs := (List.replicate 7 (.nilFunc : Value))) h trivial rfl rfl rfl ?_
  intro b3 H4 h
  obtain ⟨hl6, h17, h⟩ := h
  refine GL.storeT (p := (b3, 0)) (vs := [.nilFunc, .func (.func 72) (List.toArray []) (List.toArray []), .func (.func 73) (List.toArray []) (List.toArray []), .func (.func 74) (List.toArray []) (List.toArray []), .func (.func 75) (List.toArray []) (List.toArray []), .func (.func 76) (List.toArray []) (List.toArray []), .func (.func 77) (List.toArray []) (List.toArray [])]) h trivial rfl rfl h17 (by rw [hl6]; rfl) ?_
  intro H5 h
  refine GL.nil ?_
  refine GC.seq ?_
  refine GC.region ?_
  refine GL.val trivial rfl (OV.move (v := pv p_p) rfl) ?_
  refine GL.val trivial rfl (OV.fieldAddr (p := (b1, 0)) rfl rfl) ?_
  obtain ⟨x8, hr9, h⟩ := h
  refine GL.val trivial rfl (OV.load (p := ((b1, 0).1, (b1, 0).2 + 0)) rfl rfl hr9) ?_
  refine GL.buildSlice (cs := [.int .u8 x8]) h trivial rfl (vs := [(0, .int .u8 x8)]) rfl ⟨5, fun _ => by kernel_rfl⟩ ?_
  intro b10 H11 h
  refine GL.call h trivial rfl ok_code_pen_put (vs := [pv p_p, slv (Sl.of (some (b10, 0)) 1 1)]) rfl ?_
  rintro _ H12 ⟨rfl, h⟩
  refine GL.nil ?_
  obtain ⟨Hs13, hle14, h⟩ := h
  refine GC.any (Hs := Hs13) (by kernel_rfl) hle14 ?_
  refine GA.take 0 rfl (by kernel_rfl) (by kernel_rfl) (by kernel_rfl) (fun _ _ _ h => by obtain ⟨_, _, _, h, _⟩ := h; cases h) trivial rfl (OV.fieldAddr (p := (b1, 0)) rfl rfl) ?_
  obtain ⟨x15, hr16, h⟩ := h
  refine GA.take 1 rfl (by kernel_rfl) (by kernel_rfl) (by kernel_rfl) (fun _ _ _ h => by obtain ⟨_, _, _, h, _⟩ := h; cases h) trivial rfl (OV.load (p := ((b1, 0).1, (b1, 0).2 + 0)) rfl rfl hr16) ?_
  obtain ⟨ha17, hb18, h⟩ := h
  refine GA.take 2 rfl (by kernel_rfl) (by kernel_rfl) (by kernel_rfl) (fun _ _ _ h => by obtain ⟨_, _, _, h, _⟩ := h; cases h) trivial rfl (OV.indexAddrA (p := (b3, 0)) rfl rfl rfl rfl ha17 hb18) ?_
  obtain ⟨x19, hr20, h⟩ := h
  refine GA.take 3 rfl (by kernel_rfl) (by kernel_rfl) (by kernel_rfl) (fun _ _ _ h => by obtain ⟨_, _, _, h, _⟩ := h; cases h) trivial rfl (OV.load (p := ((b3, 0).1, (b3, 0).2 + (x15 : Int).toNat * 1)) rfl rfl hr20) ?_
  refine GA.take 4 rfl (by kernel_rfl) (by kernel_rfl) (by kernel_rfl) (fun _ _ _ h => by obtain ⟨_, _, _, h, _⟩ := h; cases h) trivial rfl (OV.move (v := pv p_p) rfl) ?_
  obtain ⟨x21, hr22, h⟩ := h
  refine GA.take 5 rfl (by kernel_rfl) (by kernel_rfl) (by kernel_rfl) (fun _ _ _ h => by obtain ⟨_, _, _, h, _⟩ := h; cases h) trivial rfl (OV.loadT (p := (b1, 0)) (cs := T_api_Value.c x21) rfl rfl rfl hr22) ?_
  refine GA.eff 6 rfl (by kernel_rfl) ?_
  refine GL.callU (xv := x19) (vs := [pv p_p, .agg (T_api_Value.c x21).toArray]) h trivial rfl rfl rfl ?_
  rintro _ H24 ⟨rfl, h⟩
  obtain ⟨hle23, h⟩ := h
  refine GA.back hle23 ?_
  refine GA.done (by kernel_rfl) ?_
  exact GL.ends (fun _ _ hf hs => post_tmp0 rfl hf hs ⟨rfl, h⟩)

def sh_ref03_put (C : Ctx) (p_v : T_api_Value) (K : Sl → Heap → Prop) (H : Heap) : Prop :=
  nw (T_api_Value.c p_v) (fun b1 H2 =>
 ldI H2 .u8 ((b1, 0).1, (b1, 0).2 + 0) fun x3 =>
 nw ([.int .u8 x3]) (fun b5 H6 =>
 jn (α := Sl) (fun x8 H9 =>
 lp (α := Sl × Int) (x8, 0) H9 (fun x40 J41 H42 =>
 ldL H42 ((b1, 0).1, (b1, 0).2 + 3) fun x43 =>
 ift (decide ((x40.2 : Int) < (Sl.len x43 : Int)))
 (dr H42 fun Hs46 =>
 ldL Hs46 ((b1, 0).1, (b1, 0).2 + 3) fun x48 =>
 ixa x48 x40.2 fun p50 =>
 ldT Hs46 T_api_Value.c (p50.1, p50.2 + (x40.2 : Int).toNat * 4) fun x55 =>
 nw ([.int .u8 1]) (fun b58 H59 =>
 Heap.le Hs46 H59 ∧
 apS ([.int .u8 0]) 1 x40.1 (Sl.of (some (b58, 0)) 1 1) (fun r61 H62 =>
 Heap.le Hs46 H62 ∧
 c_ref03_put C x55 (fun r64 H65 =>
 Heap.le Hs46 H65 ∧
 c_ref03_with C r61 r64 (fun r67 H68 =>
 Heap.le Hs46 H68 ∧
 J41 (r67, (w .i64 (x40.2 + 1))) H68) H65) H62) H59) H42)
 (apd ([.int .u8 0]) 1 x40.1 ([.int .u8 0]) 1 (fun r69 H70 =>
 K r69 H70) H42)))
 (fun J7 => ldI H6 .u8 ((b1, 0).1, (b1, 0).2 + 0) fun x11 =>
 ift ((x11 : Int) == 1)
 (ldI H6 .i64 ((b1, 0).1, (b1, 0).2 + 1) fun x14 =>
 c_ref03_Flag C (Sl.of (some (b5, 0)) 1 1) ((x14 : Int) == 1) (fun r16 H17 =>
 K r16 H17) H6)
 (ift ((x11 : Int) == 2)
 (ldI H6 .i64 ((b1, 0).1, (b1, 0).2 + 1) fun x19 =>
 c_ref03_Num C (Sl.of (some (b5, 0)) 1 1) x19 (fun r21 H22 =>
 K r21 H22) H6)
 (ift ((x11 : Int) == 3)
 (ldS H6 ((b1, 0).1, (b1, 0).2 + 2) fun x24 =>
 c_ref03_big C x24 (fun r26 H27 =>
 c_ref03_with C (Sl.of (some (b5, 0)) 1 1) r26 (fun r28 H29 =>
 K r28 H29) H27) H6)
 (ift ((x11 : Int) == 4)
 (ldS H6 ((b1, 0).1, (b1, 0).2 + 2) fun x31 =>
 c_ref03_Str C (Sl.of (some (b5, 0)) 1 1) x31 (fun r33 H34 =>
 K r33 H34) H6)
 (ift ((x11 : Int) == 6)
 (ldS H6 ((b1, 0).1, (b1, 0).2 + 2) fun x36 =>
 c_ref03_Str C (Sl.of (some (b5, 0)) 1 1) x36 (fun r38 H39 =>
 J7 r38 H39) H6)
 (J7 (Sl.of (some (b5, 0)) 1 1) H6))))))) H2) H

theorem ad_ref03_put (C : Ctx) (p_v : T_api_Value) (K : Sl → Heap → Prop) (H : Heap) (h : sh_ref03_put C p_v K H) : c_ref03_put C p_v K H := by
  refine Spec.enter Tryd.func53 rfl Tryd.ntmps53 rfl ?_
  refine GC.sub [(0, .agg (T_api_Value.c p_v).toArray)] ⟨rfl, trivial⟩ ?_
  refine GC.seq ?_
  refine GC.region ?_
  refine GL.box (v := .agg (T_api_Value.c p_v).toArray) (cs := T_api_Value.c p_v) h trivial rfl rfl rfl ?_
  intro b1 H2 h
  refine GL.val trivial rfl (OV.assign (v := slv Sl.nil) rfl) ?_
  refine GL.nil ?_
  refine GC.seq ?_
  refine GC.region ?_
  refine GL.val trivial rfl (OV.fieldAddr (p := (b1, 0)) rfl rfl) ?_
  obtain ⟨x3, hr4, h⟩ := h
  refine GL.val trivial rfl (OV.load (p := ((b1, 0).1, (b1, 0).2 + 0)) rfl rfl hr4) ?_
  refine GL.buildSlice (cs := [.int .u8 x3]) h trivial rfl (vs := [(0, .int .u8 x3)]) rfl ⟨5, fun _ => by kernel_rfl⟩ ?_
  intro b5 H6 h
  refine GL.val trivial rfl (OV.assign (v := slv (Sl.of (some (b5, 0)) 1 1)) rfl) ?_
  refine GL.nil ?_
  obtain ⟨J7, h, hR10⟩ := h
  refine GC.join (α := Sl) J7 (fun x8 => [(3, slv x8), (1, pv (some (b1, 0)))]) ?_ ?_
  · skip
    refine GC.seq ?_
    refine GC.region ?_
    refine GL.val trivial rfl (OV.fieldAddr (p := (b1, 0)) rfl rfl) ?_
    obtain ⟨x11, hr12, h⟩ := h
    refine GL.val trivial rfl (OV.load (p := ((b1, 0).1, (b1, 0).2 + 0)) rfl rfl hr12) ?_
    refine GL.nil ?_
    refine GC.block ?_
    refine GC.seq ?_
    refine GC.region ?_
    refine GL.val trivial rfl (OV.ibin (v := .bool ((x11 : Int) == 1)) rfl rfl rfl) ?_
    refine GL.val trivial rfl (OV.assign (v := .bool ((x11 : Int) == 1)) rfl) ?_
    refine GL.nil ?_
    refine GC.cond (b := (x11 : Int) == 1) rfl (fun hc13 => ?_) (fun hc13 => ?_)
    · replace h := And.left h hc13
      refine GC.seq ?_
      refine GC.region ?_
      refine GL.val trivial rfl (OV.move (v := slv (Sl.of (some (b5, 0)) 1 1)) rfl) ?_
      refine GL.val trivial rfl (OV.fieldAddr (p := (b1, 0)) rfl rfl) ?_
      obtain ⟨x14, hr15, h⟩ := h
      refine GL.val trivial rfl (OV.load (p := ((b1, 0).1, (b1, 0).2 + 1)) rfl rfl hr15) ?_
      refine GL.val trivial rfl (OV.ibin (v := .bool ((x14 : Int) == 1)) rfl rfl rfl) ?_
      refine GL.call h trivial rfl ok_ref03_Flag (vs := [slv (Sl.of (some (b5, 0)) 1 1), .bool ((x14 : Int) == 1)]) rfl ?_
      rintro _ H17 ⟨r16, rfl, h⟩
      refine GL.val trivial rfl (OV.assign (v := slv r16) rfl) ?_
      refine GL.nil ?_
      exact GC.ret (fun _ _ hf hs => post_tmp1 rfl rfl hf hs ⟨r16, rfl, h⟩)
    · replace h := And.right h hc13
      refine GC.seq ?_
      refine GC.region ?_
      refine GL.val trivial rfl (OV.ibin (v := .bool ((x11 : Int) == 2)) rfl rfl rfl) ?_
      refine GL.val trivial rfl (OV.assign (v := .bool ((x11 : Int) == 2)) rfl) ?_
      refine GL.nil ?_
      refine GC.cond (b := (x11 : Int) == 2) rfl (fun hc18 => ?_) (fun hc18 => ?_)
      · replace h := And.left h hc18
        refine GC.seq ?_
        refine GC.region ?_
        refine GL.val trivial rfl (OV.move (v := slv (Sl.of (some (b5, 0)) 1 1)) rfl) ?_
        refine GL.val trivial rfl (OV.fieldAddr (p := (b1, 0)) rfl rfl) ?_
        obtain ⟨x19, hr20, h⟩ := h
        refine GL.val trivial rfl (OV.load (p := ((b1, 0).1, (b1, 0).2 + 1)) rfl rfl hr20) ?_
        refine GL.call h trivial rfl ok_ref03_Num (vs := [slv (Sl.of (some (b5, 0)) 1 1), .int .i64 x19]) rfl ?_
        rintro _ H22 ⟨r21, rfl, h⟩
        refine GL.val trivial rfl (OV.assign (v := slv r21) rfl) ?_
        refine GL.nil ?_
        exact GC.ret (fun _ _ hf hs => post_tmp1 rfl rfl hf hs ⟨r21, rfl, h⟩)
      · replace h := And.right h hc18
        refine GC.seq ?_
        refine GC.region ?_
        refine GL.val trivial rfl (OV.ibin (v := .bool ((x11 : Int) == 3)) rfl rfl rfl) ?_
        refine GL.val trivial rfl (OV.assign (v := .bool ((x11 : Int) == 3)) rfl) ?_
        refine GL.nil ?_
        refine GC.cond (b := (x11 : Int) == 3) rfl (fun hc23 => ?_) (fun hc23 => ?_)
        · replace h := And.left h hc23
          refine GC.seq ?_
          refine GC.region ?_
          refine GL.val trivial rfl (OV.move (v := slv (Sl.of (some (b5, 0)) 1 1)) rfl) ?_
          refine GL.val trivial rfl (OV.fieldAddr (p := (b1, 0)) rfl rfl) ?_
          obtain ⟨x24, hr25, h⟩ := h
          refine GL.val trivial rfl (OV.load (p := ((b1, 0).1, (b1, 0).2 + 2)) rfl rfl hr25) ?_
          refine GL.call h trivial rfl ok_ref03_big (vs := [sv x24]) rfl ?_
          rintro _ H27 ⟨r26, rfl, h⟩
          refine GL.call h trivial rfl ok_ref03_with (vs := [slv (Sl.of (some (b5, 0)) 1 1), slv r26]) rfl ?_
          rintro _ H29 ⟨r28, rfl, h⟩
          refine GL.val trivial rfl (OV.assign (v := slv r28) rfl) ?_
          refine GL.nil ?_
          exact GC.ret (fun _ _ hf hs => post_tmp1 rfl rfl hf hs ⟨r28, rfl, h⟩)
        · replace h := And.right h hc23
          refine GC.seq ?_
          refine GC.region ?_
          refine GL.val trivial rfl (OV.ibin (v := .bool ((x11 : Int) == 4)) rfl rfl rfl) ?_
          refine GL.val trivial rfl (OV.assign (v := .bool ((x11 : Int) == 4)) rfl) ?_
          refine GL.nil ?_
          refine GC.cond (b := (x11 : Int) == 4) rfl (fun hc30 => ?_) (fun hc30 => ?_)
          · replace h := And.left h hc30
            refine GC.seq ?_
            refine GC.region ?_
            refine GL.val trivial rfl (OV.move (v := slv (Sl.of (some (b5, 0)) 1 1)) rfl) ?_
            refine GL.val trivial rfl (OV.fieldAddr (p := (b1, 0)) rfl rfl) ?_
            obtain ⟨x31, hr32, h⟩ := h
            refine GL.val trivial rfl (OV.load (p := ((b1, 0).1, (b1, 0).2 + 2)) rfl rfl hr32) ?_
            refine GL.call h trivial rfl ok_ref03_Str (vs := [slv (Sl.of (some (b5, 0)) 1 1), sv x31]) rfl ?_
            rintro _ H34 ⟨r33, rfl, h⟩
            refine GL.val trivial rfl (OV.assign (v := slv r33) rfl) ?_
            refine GL.nil ?_
            exact GC.ret (fun _ _ hf hs => post_tmp1 rfl rfl hf hs ⟨r33, rfl, h⟩)
          · replace h := And.right h hc30
            refine GC.seq ?_
            refine GC.region ?_
            refine GL.val trivial rfl (OV.ibin (v := .bool ((x11 : Int) == 6)) rfl rfl rfl) ?_
            refine GL.val trivial rfl (OV.assign (v := .bool ((x11 : Int) == 6)) rfl) ?_
            refine GL.nil ?_
            refine GC.cond (b := (x11 : Int) == 6) rfl (fun hc35 => ?_) (fun hc35 => ?_)
            · replace h := And.left h hc35
              refine GC.region ?_
              refine GL.val trivial rfl (OV.move (v := slv (Sl.of (some (b5, 0)) 1 1)) rfl) ?_
              refine GL.val trivial rfl (OV.fieldAddr (p := (b1, 0)) rfl rfl) ?_
              obtain ⟨x36, hr37, h⟩ := h
              refine GL.val trivial rfl (OV.load (p := ((b1, 0).1, (b1, 0).2 + 2)) rfl rfl hr37) ?_
              refine GL.call h trivial rfl ok_ref03_Str (vs := [slv (Sl.of (some (b5, 0)) 1 1), sv x36]) rfl ?_
              rintro _ H39 ⟨r38, rfl, h⟩
              refine GL.val trivial rfl (OV.assign (v := slv r38) rfl) ?_
              exact GL.jump (fun _ _ h => h) r38 h ⟨rfl, rfl, trivial⟩
            · replace h := And.right h hc35
              exact GC.jump (fun _ _ h => h) (Sl.of (some (b5, 0)) 1 1) h ⟨rfl, rfl, trivial⟩
  · intro x8 H9 h
    replace h := hR10 x8 H9 h
    refine GC.seq ?_
    refine GC.seq ?_
    refine GC.region ?_
    refine GL.val trivial rfl (OV.assign (v := .int .i64 0) rfl) ?_
    refine GL.nil ?_
    refine GC.block ?_
    refine GC.loop (α := Sl × Int) h (fun x40 => [(3, slv x40.1), (4, .int .i64 x40.2), (1, pv (some (b1, 0)))]) ⟨rfl, rfl, rfl, trivial⟩ ?_
    intro x40 H42 J41 h
    refine GC.seq ?_
    refine GC.seq ?_
    refine GC.region ?_
    refine GL.val trivial rfl (OV.move (v := .int .i64 x40.2) rfl) ?_
    refine GL.val trivial rfl (OV.fieldAddr (p := (b1, 0)) rfl rfl) ?_
    obtain ⟨x43, hr44, h⟩ := h
    refine GL.val trivial rfl (OV.load (p := ((b1, 0).1, (b1, 0).2 + 3)) rfl rfl hr44) ?_
    refine GL.val trivial rfl (OV.lenSl (s := x43) rfl rfl) ?_
    refine GL.val trivial rfl (OV.ibin (v := .bool (decide ((x40.2 : Int) < (Sl.len x43 : Int)))) rfl rfl rfl) ?_
    refine GL.nil ?_
    refine GC.cond (b := decide ((x40.2 : Int) < (Sl.len x43 : Int))) rfl (fun hc45 => ?_) (fun hc45 => ?_)
    · replace h := And.left h hc45
      refine GC.skip ?_
      refine GC.seq ?_
      refine GC.block ?_
      obtain ⟨Hs46, hle47, h⟩ := h
      refine GC.any (Hs := Hs46) (by kernel_rfl) hle47 ?_
      refine GA.take 0 rfl (by kernel_rfl) (by kernel_rfl) (by kernel_rfl) (fun _ _ _ h => by obtain ⟨_, _, _, h, _⟩ := h; cases h) trivial rfl (OV.move (v := slv x40.1) rfl) ?_
      refine GA.take 3 rfl (by kernel_rfl) (by kernel_rfl) (by kernel_rfl) (fun _ _ _ h => by obtain ⟨_, _, _, h, _⟩ := h; cases h) trivial rfl (OV.fieldAddr (p := (b1, 0)) rfl rfl) ?_
      obtain ⟨x48, hr49, h⟩ := h
      refine GA.take 4 rfl (by kernel_rfl) (by kernel_rfl) (by kernel_rfl) (fun _ _ _ h => by obtain ⟨_, _, _, h, _⟩ := h; cases h) trivial rfl (OV.load (p := ((b1, 0).1, (b1, 0).2 + 3)) rfl rfl hr49) ?_
      refine GA.take 5 rfl (by kernel_rfl) (by kernel_rfl) (by kernel_rfl) (fun _ _ _ h => by obtain ⟨_, _, _, h, _⟩ := h; cases h) trivial rfl (OV.move (v := .int .i64 x40.2) rfl) ?_
      obtain ⟨p50, ha51, hb52, hc53, hd54, h⟩ := h
      refine GA.take 6 rfl (by kernel_rfl) (by kernel_rfl) (by kernel_rfl) (fun _ _ _ h => by obtain ⟨_, _, _, h, _⟩ := h; cases h) trivial rfl (OV.indexAddr (s := x48) rfl rfl rfl rfl ha51 hb52 hc53 hd54) ?_
      obtain ⟨x55, hr56, h⟩ := h
      refine GA.take 7 rfl (by kernel_rfl) (by kernel_rfl) (by kernel_rfl) (fun _ _ _ h => by obtain ⟨_, _, _, h, _⟩ := h; cases h) trivial rfl (OV.loadT (p := (p50.1, p50.2 + (x40.2 : Int).toNat * 4)) (cs := T_api_Value.c x55) rfl rfl rfl hr56) ?_
      refine GA.eff 1 rfl (by kernel_rfl) ?_
      refine GL.buildSlice (cs := [.int .u8 1]) h trivial rfl (vs := [(0, .int .u8 1)]) rfl ⟨5, fun _ => by kernel_rfl⟩ ?_
      intro b58 H59 h
      obtain ⟨hle57, h⟩ := h
      refine GA.back hle57 ?_
      refine GA.eff 2 rfl (by kernel_rfl) ?_
      refine GL.appendS (s := x40.1) (s2 := (Sl.of (some (b58, 0)) 1 1)) (zc := [.int .u8 0]) (bytes := 1) h trivial rfl rfl rfl ⟨⟨_, _, _, rfl, rfl, rfl, rfl, rfl, rfl⟩⟩ rfl ?_
      intro r61 H62 h
      obtain ⟨hle60, h⟩ := h
      refine GA.back hle60 ?_
      refine GA.eff 8 rfl (by kernel_rfl) ?_
      refine GL.call h trivial rfl ok_ref03_put (vs := [.agg (T_api_Value.c x55).toArray]) rfl ?_
      rintro _ H65 ⟨r64, rfl, h⟩
      obtain ⟨hle63, h⟩ := h
      refine GA.back hle63 ?_
      refine GA.eff 9 rfl (by kernel_rfl) ?_
      refine GL.call h trivial rfl ok_ref03_with (vs := [slv r61, slv r64]) rfl ?_
      rintro _ H68 ⟨r67, rfl, h⟩
      obtain ⟨hle66, h⟩ := h
      refine GA.back hle66 ?_
      refine GA.take 10 rfl (by kernel_rfl) (by kernel_rfl) (by kernel_rfl) (fun _ _ _ h => by obtain ⟨_, _, _, h, _⟩ := h; cases h) trivial rfl (OV.assign (v := slv r67) rfl) ?_
      refine GA.done (by kernel_rfl) ?_
      refine GL.nil_to (fun _ _ h => h) ?_
      refine GC.region ?_
      refine GL.val trivial rfl (OV.move (v := .int .i64 x40.2) rfl) ?_
      refine GL.val trivial rfl (OV.ibin (v := .int .i64 (w .i64 (x40.2 + 1))) rfl rfl rfl) ?_
      refine GL.val trivial rfl (OV.assign (v := .int .i64 (w .i64 (x40.2 + 1))) rfl) ?_
      exact GL.jump (fun _ _ h => h) (r67, (w .i64 (x40.2 + 1))) h ⟨rfl, rfl, rfl, trivial⟩
    · replace h := And.right h hc45
      refine GC.exit_to (fun _ _ h => h) ?_
      refine GC.seq ?_
      refine GC.region ?_
      refine GL.val trivial rfl (OV.move (v := slv x40.1) rfl) ?_
      refine GL.appendLit (s := x40.1) (ys := [.int .u8 0]) (zc := [.int .u8 0]) (bytes := 1) h trivial rfl (fun _ => trivial) rfl (fun _ => rfl) (fun _ => rfl) (vs := [(0, .int .u8 0)]) rfl ⟨5, fun _ => by kernel_rfl⟩ ⟨⟨_, _, _, rfl, rfl, rfl, rfl, rfl, rfl⟩⟩ rfl rfl ?_
      intro _ r69 H70 h
      refine GL.val trivial rfl (OV.assign (v := slv r69) rfl) ?_
      refine GL.nil ?_
      exact GC.ret (fun _ _ hf hs => post_tmp1 rfl rfl hf hs ⟨r69, rfl, h⟩)

def sh_ref02_last (C : Ctx) (p_a : Bool) (p_b : Bool) (K : Int → Heap → Prop) (H : Heap) : Prop :=
  ift (p_a == p_b)
 (K 0 H)
 (ift p_a
 (K (-1) H)
 (K 1 H))

theorem ad_ref02_last (C : Ctx) (p_a : Bool) (p_b : Bool) (K : Int → Heap → Prop) (H : Heap) (h : sh_ref02_last C p_a p_b K H) : c_ref02_last C p_a p_b K H := by
  refine Spec.enter Tryd.func54 rfl Tryd.ntmps54 rfl ?_
  refine GC.sub [(0, .bool p_a), (1, .bool p_b)] ⟨rfl, rfl, trivial⟩ ?_
  refine GC.seq ?_
  refine GC.region ?_
  refine GL.val trivial rfl (OV.assign (v := .int .i64 0) rfl) ?_
  refine GL.nil ?_
  refine GC.seq ?_
  refine GC.seq ?_
  refine GC.region ?_
  refine GL.val trivial rfl (OV.move (v := .bool p_a) rfl) ?_
  refine GL.val trivial rfl (OV.move (v := .bool p_b) rfl) ?_
  refine GL.val trivial rfl (OV.eqlBool rfl rfl rfl) ?_
  refine GL.nil ?_
  refine GC.cond (b := p_a == p_b) rfl (fun hc1 => ?_) (fun hc1 => ?_)
  · replace h := And.left h hc1
    refine GC.seq ?_
    refine GC.region ?_
    refine GL.val trivial rfl (OV.assign (v := .int .i64 0) rfl) ?_
    refine GL.nil ?_
    exact GC.ret (fun _ _ hf hs => post_tmp1 rfl rfl hf hs ⟨0, rfl, h⟩)
  · replace h := And.right h hc1
    refine GC.skip ?_
    refine GC.seq ?_
    refine GC.seq ?_
    refine GC.region ?_
    refine GL.val trivial rfl (OV.move (v := .bool p_a) rfl) ?_
    refine GL.nil ?_
    refine GC.cond (b := p_a) rfl (fun hc2 => ?_) (fun hc2 => ?_)
    · replace h := And.left h hc2
      refine GC.seq ?_
      refine GC.region ?_
      refine GL.val trivial rfl (OV.assign (v := .int .i64 (-1)) rfl) ?_
      refine GL.nil ?_
      exact GC.ret (fun _ _ hf hs => post_tmp1 rfl rfl hf hs ⟨(-1), rfl, h⟩)
    · replace h := And.right h hc2
      refine GC.skip ?_
      refine GC.seq ?_
      refine GC.region ?_
      refine GL.val trivial rfl (OV.assign (v := .int .i64 1) rfl) ?_
      refine GL.nil ?_
      exact GC.ret (fun _ _ hf hs => post_tmp1 rfl rfl hf hs ⟨1, rfl, h⟩)

def sh_ref02_cmp (C : Ctx) (p_a : T_api_Value) (p_b : T_api_Value) (K : Int → Heap → Prop) (H : Heap) : Prop :=
  nw (T_api_Value.c p_a) (fun b1 H2 =>
 nw (T_api_Value.c p_b) (fun b3 H4 =>
 ldI H4 .u8 ((b1, 0).1, (b1, 0).2 + 0) fun x5 =>
 ldI H4 .u8 ((b3, 0).1, (b3, 0).2 + 0) fun x7 =>
 ift ((x5 : Int) != x7)
 (ldI H4 .u8 ((b1, 0).1, (b1, 0).2 + 0) fun x10 =>
 ldI H4 .u8 ((b3, 0).1, (b3, 0).2 + 0) fun x12 =>
 c_ref02_ints C (w .i64 x10) (w .i64 x12) (fun r14 H15 =>
 K r14 H15) H4)
 (ldI H4 .u8 ((b1, 0).1, (b1, 0).2 + 0) fun x16 =>
 ift ((x16 : Int) == 3)
 (ldS H4 ((b1, 0).1, (b1, 0).2 + 2) fun x19 =>
 ldS H4 ((b3, 0).1, (b3, 0).2 + 2) fun x21 =>
 c_ref02_Bigs C x19 x21 (fun r23 H24 =>
 K r23 H24) H4)
 (ift ((x16 : Int) == 4)
 (ldS H4 ((b1, 0).1, (b1, 0).2 + 2) fun x26 =>
 ldS H4 ((b3, 0).1, (b3, 0).2 + 2) fun x28 =>
 c_ref02_texts C x26 x28 (fun r30 H31 =>
 K r30 H31) H4)
 (ift ((x16 : Int) == 5)
 (ldL H4 ((b1, 0).1, (b1, 0).2 + 3) fun x33 =>
 ldL H4 ((b3, 0).1, (b3, 0).2 + 3) fun x35 =>
 c_ref02_rows C x33 x35 (fun r37 H38 =>
 K r37 H38) H4)
 (ift ((x16 : Int) == 6)
 (ldS H4 ((b1, 0).1, (b1, 0).2 + 2) fun x40 =>
 ldS H4 ((b3, 0).1, (b3, 0).2 + 2) fun x42 =>
 c_ref02_texts C x40 x42 (fun r44 H45 =>
 ift ((r44 : Int) != 0)
 (K r44 H45)
 (ldL H45 ((b1, 0).1, (b1, 0).2 + 3) fun x47 =>
 ldL H45 ((b3, 0).1, (b3, 0).2 + 3) fun x49 =>
 c_ref02_rows C x47 x49 (fun r51 H52 =>
 K r51 H52) H45)) H4)
 (ldI H4 .i64 ((b1, 0).1, (b1, 0).2 + 1) fun x53 =>
 ldI H4 .i64 ((b3, 0).1, (b3, 0).2 + 1) fun x55 =>
 c_ref02_ints C x53 x55 (fun r57 H58 =>
 K r57 H58) H4)))))) H2) H

theorem ad_ref02_cmp (C : Ctx) (p_a : T_api_Value) (p_b : T_api_Value) (K : Int → Heap → Prop) (H : Heap) (h : sh_ref02_cmp C p_a p_b K H) : c_ref02_cmp C p_a p_b K H := by
  refine Spec.enter Tryd.func55 rfl Tryd.ntmps55 rfl ?_
  refine GC.sub [(0, .agg (T_api_Value.c p_a).toArray), (1, .agg (T_api_Value.c p_b).toArray)] ⟨rfl, rfl, trivial⟩ ?_
  refine GC.seq ?_
  refine GC.region ?_
  refine GL.box (v := .agg (T_api_Value.c p_a).toArray) (cs := T_api_Value.c p_a) h trivial rfl rfl rfl ?_
  intro b1 H2 h
  refine GL.box (v := .agg (T_api_Value.c p_b).toArray) (cs := T_api_Value.c p_b) h trivial rfl rfl rfl ?_
  intro b3 H4 h
  refine GL.val trivial rfl (OV.assign (v := .int .i64 0) rfl) ?_
  refine GL.nil ?_
  refine GC.seq ?_
  refine GC.seq ?_
  refine GC.region ?_
  refine GL.val trivial rfl (OV.fieldAddr (p := (b1, 0)) rfl rfl) ?_
  obtain ⟨x5, hr6, h⟩ := h
  refine GL.val trivial rfl (OV.load (p := ((b1, 0).1, (b1, 0).2 + 0)) rfl rfl hr6) ?_
  refine GL.val trivial rfl (OV.fieldAddr (p := (b3, 0)) rfl rfl) ?_
  obtain ⟨x7, hr8, h⟩ := h
  refine GL.val trivial rfl (OV.load (p := ((b3, 0).1, (b3, 0).2 + 0)) rfl rfl hr8) ?_
  refine GL.val trivial rfl (OV.ibin (v := .bool ((x5 : Int) != x7)) rfl rfl rfl) ?_
  refine GL.nil ?_
  refine GC.cond (b := (x5 : Int) != x7) rfl (fun hc9 => ?_) (fun hc9 => ?_)
  · replace h := And.left h hc9
    refine GC.seq ?_
    refine GC.region ?_
    refine GL.val trivial rfl (OV.fieldAddr (p := (b1, 0)) rfl rfl) ?_
    obtain ⟨x10, hr11, h⟩ := h
    refine GL.val trivial rfl (OV.load (p := ((b1, 0).1, (b1, 0).2 + 0)) rfl rfl hr11) ?_
    refine GL.val trivial rfl (OV.convInt rfl rfl rfl) ?_
    refine GL.val trivial rfl (OV.fieldAddr (p := (b3, 0)) rfl rfl) ?_
    obtain ⟨x12, hr13, h⟩ := h
    refine GL.val trivial rfl (OV.load (p := ((b3, 0).1, (b3, 0).2 + 0)) rfl rfl hr13) ?_
    refine GL.val trivial rfl (OV.convInt rfl rfl rfl) ?_
    refine GL.call h trivial rfl ok_ref02_ints (vs := [.int .i64 (w .i64 x10), .int .i64 (w .i64 x12)]) rfl ?_
    rintro _ H15 ⟨r14, rfl, h⟩
    refine GL.val trivial rfl (OV.assign (v := .int .i64 r14) rfl) ?_
    refine GL.nil ?_
    exact GC.ret (fun _ _ hf hs => post_tmp1 rfl rfl hf hs ⟨r14, rfl, h⟩)
  · replace h := And.right h hc9
    refine GC.skip ?_
    refine GC.seq ?_
    refine GC.seq ?_
    refine GC.region ?_
    refine GL.val trivial rfl (OV.fieldAddr (p := (b1, 0)) rfl rfl) ?_
    obtain ⟨x16, hr17, h⟩ := h
    refine GL.val trivial rfl (OV.load (p := ((b1, 0).1, (b1, 0).2 + 0)) rfl rfl hr17) ?_
    refine GL.nil ?_
    refine GC.block ?_
    refine GC.seq ?_
    refine GC.region ?_
    refine GL.val trivial rfl (OV.ibin (v := .bool ((x16 : Int) == 3)) rfl rfl rfl) ?_
    refine GL.val trivial rfl (OV.assign (v := .bool ((x16 : Int) == 3)) rfl) ?_
    refine GL.nil ?_
    refine GC.cond (b := (x16 : Int) == 3) rfl (fun hc18 => ?_) (fun hc18 => ?_)
    · replace h := And.left h hc18
      refine GC.seq ?_
      refine GC.region ?_
      refine GL.val trivial rfl (OV.fieldAddr (p := (b1, 0)) rfl rfl) ?_
      obtain ⟨x19, hr20, h⟩ := h
      refine GL.val trivial rfl (OV.load (p := ((b1, 0).1, (b1, 0).2 + 2)) rfl rfl hr20) ?_
      refine GL.val trivial rfl (OV.fieldAddr (p := (b3, 0)) rfl rfl) ?_
      obtain ⟨x21, hr22, h⟩ := h
      refine GL.val trivial rfl (OV.load (p := ((b3, 0).1, (b3, 0).2 + 2)) rfl rfl hr22) ?_
      refine GL.call h trivial rfl ok_ref02_Bigs (vs := [sv x19, sv x21]) rfl ?_
      rintro _ H24 ⟨r23, rfl, h⟩
      refine GL.val trivial rfl (OV.assign (v := .int .i64 r23) rfl) ?_
      refine GL.nil ?_
      exact GC.ret (fun _ _ hf hs => post_tmp1 rfl rfl hf hs ⟨r23, rfl, h⟩)
    · replace h := And.right h hc18
      refine GC.seq ?_
      refine GC.region ?_
      refine GL.val trivial rfl (OV.ibin (v := .bool ((x16 : Int) == 4)) rfl rfl rfl) ?_
      refine GL.val trivial rfl (OV.assign (v := .bool ((x16 : Int) == 4)) rfl) ?_
      refine GL.nil ?_
      refine GC.cond (b := (x16 : Int) == 4) rfl (fun hc25 => ?_) (fun hc25 => ?_)
      · replace h := And.left h hc25
        refine GC.seq ?_
        refine GC.region ?_
        refine GL.val trivial rfl (OV.fieldAddr (p := (b1, 0)) rfl rfl) ?_
        obtain ⟨x26, hr27, h⟩ := h
        refine GL.val trivial rfl (OV.load (p := ((b1, 0).1, (b1, 0).2 + 2)) rfl rfl hr27) ?_
        refine GL.val trivial rfl (OV.fieldAddr (p := (b3, 0)) rfl rfl) ?_
        obtain ⟨x28, hr29, h⟩ := h
        refine GL.val trivial rfl (OV.load (p := ((b3, 0).1, (b3, 0).2 + 2)) rfl rfl hr29) ?_
        refine GL.call h trivial rfl ok_ref02_texts (vs := [sv x26, sv x28]) rfl ?_
        rintro _ H31 ⟨r30, rfl, h⟩
        refine GL.val trivial rfl (OV.assign (v := .int .i64 r30) rfl) ?_
        refine GL.nil ?_
        exact GC.ret (fun _ _ hf hs => post_tmp1 rfl rfl hf hs ⟨r30, rfl, h⟩)
      · replace h := And.right h hc25
        refine GC.seq ?_
        refine GC.region ?_
        refine GL.val trivial rfl (OV.ibin (v := .bool ((x16 : Int) == 5)) rfl rfl rfl) ?_
        refine GL.val trivial rfl (OV.assign (v := .bool ((x16 : Int) == 5)) rfl) ?_
        refine GL.nil ?_
        refine GC.cond (b := (x16 : Int) == 5) rfl (fun hc32 => ?_) (fun hc32 => ?_)
        · replace h := And.left h hc32
          refine GC.seq ?_
          refine GC.region ?_
          refine GL.val trivial rfl (OV.fieldAddr (p := (b1, 0)) rfl rfl) ?_
          obtain ⟨x33, hr34, h⟩ := h
          refine GL.val trivial rfl (OV.load (p := ((b1, 0).1, (b1, 0).2 + 3)) rfl rfl hr34) ?_
          refine GL.val trivial rfl (OV.fieldAddr (p := (b3, 0)) rfl rfl) ?_
          obtain ⟨x35, hr36, h⟩ := h
          refine GL.val trivial rfl (OV.load (p := ((b3, 0).1, (b3, 0).2 + 3)) rfl rfl hr36) ?_
          refine GL.call h trivial rfl ok_ref02_rows (vs := [slv x33, slv x35]) rfl ?_
          rintro _ H38 ⟨r37, rfl, h⟩
          refine GL.val trivial rfl (OV.assign (v := .int .i64 r37) rfl) ?_
          refine GL.nil ?_
          exact GC.ret (fun _ _ hf hs => post_tmp1 rfl rfl hf hs ⟨r37, rfl, h⟩)
        · replace h := And.right h hc32
          refine GC.seq ?_
          refine GC.region ?_
          refine GL.val trivial rfl (OV.ibin (v := .bool ((x16 : Int) == 6)) rfl rfl rfl) ?_
          refine GL.val trivial rfl (OV.assign (v := .bool ((x16 : Int) == 6)) rfl) ?_
          refine GL.nil ?_
          refine GC.cond (b := (x16 : Int) == 6) rfl (fun hc39 => ?_) (fun hc39 => ?_)
          · replace h := And.left h hc39
            refine GC.seq ?_
            refine GC.region ?_
            refine GL.val trivial rfl (OV.fieldAddr (p := (b1, 0)) rfl rfl) ?_
            obtain ⟨x40, hr41, h⟩ := h
            refine GL.val trivial rfl (OV.load (p := ((b1, 0).1, (b1, 0).2 + 2)) rfl rfl hr41) ?_
            refine GL.val trivial rfl (OV.fieldAddr (p := (b3, 0)) rfl rfl) ?_
            obtain ⟨x42, hr43, h⟩ := h
            refine GL.val trivial rfl (OV.load (p := ((b3, 0).1, (b3, 0).2 + 2)) rfl rfl hr43) ?_
            refine GL.call h trivial rfl ok_ref02_texts (vs := [sv x40, sv x42]) rfl ?_
            rintro _ H45 ⟨r44, rfl, h⟩
            refine GL.val trivial rfl (OV.assign (v := .int .i64 r44) rfl) ?_
            refine GL.nil ?_
            refine GC.seq ?_
            refine GC.seq ?_
            refine GC.region ?_
            refine GL.val trivial rfl (OV.move (v := .int .i64 r44) rfl) ?_
            refine GL.val trivial rfl (OV.ibin (v := .bool ((r44 : Int) != 0)) rfl rfl rfl) ?_
            refine GL.nil ?_
            refine GC.cond (b := (r44 : Int) != 0) rfl (fun hc46 => ?_) (fun hc46 => ?_)
            · replace h := And.left h hc46
              refine GC.seq ?_
              refine GC.region ?_
              refine GL.val trivial rfl (OV.move (v := .int .i64 r44) rfl) ?_
              refine GL.val trivial rfl (OV.assign (v := .int .i64 r44) rfl) ?_
              refine GL.nil ?_
              exact GC.ret (fun _ _ hf hs => post_tmp1 rfl rfl hf hs ⟨r44, rfl, h⟩)
            · replace h := And.right h hc46
              refine GC.skip ?_
              refine GC.seq ?_
              refine GC.region ?_
              refine GL.val trivial rfl (OV.fieldAddr (p := (b1, 0)) rfl rfl) ?_
              obtain ⟨x47, hr48, h⟩ := h
              refine GL.val trivial rfl (OV.load (p := ((b1, 0).1, (b1, 0).2 + 3)) rfl rfl hr48) ?_
              refine GL.val trivial rfl (OV.fieldAddr (p := (b3, 0)) rfl rfl) ?_
              obtain ⟨x49, hr50, h⟩ := h
              refine GL.val trivial rfl (OV.load (p := ((b3, 0).1, (b3, 0).2 + 3)) rfl rfl hr50) ?_
              refine GL.call h trivial rfl ok_ref02_rows (vs := [slv x47, slv x49]) rfl ?_
              rintro _ H52 ⟨r51, rfl, h⟩
              refine GL.val trivial rfl (OV.assign (v := .int .i64 r51) rfl) ?_
              refine GL.nil ?_
              exact GC.ret (fun _ _ hf hs => post_tmp1 rfl rfl hf hs ⟨r51, rfl, h⟩)
          · replace h := And.right h hc39
            refine GC.skip_to (fun _ _ h => h) ?_
            refine GC.seq ?_
            refine GC.region ?_
            refine GL.val trivial rfl (OV.fieldAddr (p := (b1, 0)) rfl rfl) ?_
            obtain ⟨x53, hr54, h⟩ := h
            refine GL.val trivial rfl (OV.load (p := ((b1, 0).1, (b1, 0).2 + 1)) rfl rfl hr54) ?_
            refine GL.val trivial rfl (OV.fieldAddr (p := (b3, 0)) rfl rfl) ?_
            obtain ⟨x55, hr56, h⟩ := h
            refine GL.val trivial rfl (OV.load (p := ((b3, 0).1, (b3, 0).2 + 1)) rfl rfl hr56) ?_
            refine GL.call h trivial rfl ok_ref02_ints (vs := [.int .i64 x53, .int .i64 x55]) rfl ?_
            rintro _ H58 ⟨r57, rfl, h⟩
            refine GL.val trivial rfl (OV.assign (v := .int .i64 r57) rfl) ?_
            refine GL.nil ?_
            exact GC.ret (fun _ _ hf hs => post_tmp1 rfl rfl hf hs ⟨r57, rfl, h⟩)

def sh_ref02_Depth (C : Ctx) (p_v : T_api_Value) (K : Int → Heap → Prop) (H : Heap) : Prop :=
  nw (T_api_Value.c p_v) (fun b1 H2 =>
 lp (α := Int × Int) (0, 0) H2 (fun x3 J4 H5 =>
 ldL H5 ((b1, 0).1, (b1, 0).2 + 3) fun x6 =>
 ift (decide ((x3.2 : Int) < (Sl.len x6 : Int)))
 (ldL H5 ((b1, 0).1, (b1, 0).2 + 3) fun x9 =>
 ixa x9 x3.2 fun p11 =>
 ldT H5 T_api_Value.c (p11.1, p11.2 + (x3.2 : Int).toNat * 4) fun x16 =>
 c_ref02_Depth C x16 (fun r18 H19 =>
 J4 ((if r18 > x3.1 then r18 else x3.1 : Int), (w .i64 (x3.2 + 1))) H19) H5)
 (K (w .i64 (x3.1 + 1)) H5))) H

theorem ad_ref02_Depth (C : Ctx) (p_v : T_api_Value) (K : Int → Heap → Prop) (H : Heap) (h : sh_ref02_Depth C p_v K H) : c_ref02_Depth C p_v K H := by
  refine Spec.enter Tryd.func56 rfl Tryd.ntmps56 rfl ?_
  refine GC.sub [(0, .agg (T_api_Value.c p_v).toArray)] ⟨rfl, trivial⟩ ?_
  refine GC.seq ?_
  refine GC.region ?_
  refine GL.box (v := .agg (T_api_Value.c p_v).toArray) (cs := T_api_Value.c p_v) h trivial rfl rfl rfl ?_
  intro b1 H2 h
  refine GL.val trivial rfl (OV.assign (v := .int .i64 0) rfl) ?_
  refine GL.nil ?_
  refine GC.seq ?_
  refine GC.region ?_
  refine GL.val trivial rfl (OV.assign (v := .int .i64 0) rfl) ?_
  refine GL.nil ?_
  refine GC.seq ?_
  refine GC.seq ?_
  refine GC.region ?_
  refine GL.val trivial rfl (OV.assign (v := .int .i64 0) rfl) ?_
  refine GL.nil ?_
  refine GC.block ?_
  refine GC.loop (α := Int × Int) h (fun x3 => [(3, .int .i64 x3.1), (4, .int .i64 x3.2), (1, pv (some (b1, 0)))]) ⟨rfl, rfl, rfl, trivial⟩ ?_
  intro x3 H5 J4 h
  refine GC.seq ?_
  refine GC.seq ?_
  refine GC.region ?_
  refine GL.val trivial rfl (OV.move (v := .int .i64 x3.2) rfl) ?_
  refine GL.val trivial rfl (OV.fieldAddr (p := (b1, 0)) rfl rfl) ?_
  obtain ⟨x6, hr7, h⟩ := h
  refine GL.val trivial rfl (OV.load (p := ((b1, 0).1, (b1, 0).2 + 3)) rfl rfl hr7) ?_
  refine GL.val trivial rfl (OV.lenSl (s := x6) rfl rfl) ?_
  refine GL.val trivial rfl (OV.ibin (v := .bool (decide ((x3.2 : Int) < (Sl.len x6 : Int)))) rfl rfl rfl) ?_
  refine GL.nil ?_
  refine GC.cond (b := decide ((x3.2 : Int) < (Sl.len x6 : Int))) rfl (fun hc8 => ?_) (fun hc8 => ?_)
  · replace h := And.left h hc8
    refine GC.skip ?_
    refine GC.seq ?_
    refine GC.block ?_
    refine GC.region ?_
    refine GL.val trivial rfl (OV.move (v := .int .i64 x3.1) rfl) ?_
    refine GL.val trivial rfl (OV.fieldAddr (p := (b1, 0)) rfl rfl) ?_
    obtain ⟨x9, hr10, h⟩ := h
    refine GL.val trivial rfl (OV.load (p := ((b1, 0).1, (b1, 0).2 + 3)) rfl rfl hr10) ?_
    refine GL.val trivial rfl (OV.move (v := .int .i64 x3.2) rfl) ?_
    obtain ⟨p11, ha12, hb13, hc14, hd15, h⟩ := h
    refine GL.val trivial rfl (OV.indexAddr (s := x9) rfl rfl rfl rfl ha12 hb13 hc14 hd15) ?_
    obtain ⟨x16, hr17, h⟩ := h
    refine GL.val trivial rfl (OV.loadT (p := (p11.1, p11.2 + (x3.2 : Int).toNat * 4)) (cs := T_api_Value.c x16) rfl rfl rfl hr17) ?_
    refine GL.call h trivial rfl ok_ref02_Depth (vs := [.agg (T_api_Value.c x16).toArray]) rfl ?_
    rintro _ H19 ⟨r18, rfl, h⟩
    refine GL.val trivial rfl (OV.maxI rfl rfl) ?_
    refine GL.val trivial rfl (OV.assign (v := .int .i64 (if r18 > x3.1 then r18 else x3.1 : Int)) rfl) ?_
    refine GL.nil_to (fun _ _ h => h) ?_
    refine GC.region ?_
    refine GL.val trivial rfl (OV.move (v := .int .i64 x3.2) rfl) ?_
    refine GL.val trivial rfl (OV.ibin (v := .int .i64 (w .i64 (x3.2 + 1))) rfl rfl rfl) ?_
    refine GL.val trivial rfl (OV.assign (v := .int .i64 (w .i64 (x3.2 + 1))) rfl) ?_
    exact GL.jump (fun _ _ h => h) ((if r18 > x3.1 then r18 else x3.1 : Int), (w .i64 (x3.2 + 1))) h ⟨rfl, rfl, rfl, trivial⟩
  · replace h := And.right h hc8
    refine GC.exit_to (fun _ _ h => h) ?_
    refine GC.seq ?_
    refine GC.region ?_
    refine GL.val trivial rfl (OV.move (v := .int .i64 x3.1) rfl) ?_
    refine GL.val trivial rfl (OV.ibin (v := .int .i64 (w .i64 (x3.1 + 1))) rfl rfl rfl) ?_
    refine GL.val trivial rfl (OV.assign (v := .int .i64 (w .i64 (x3.1 + 1))) rfl) ?_
    refine GL.nil ?_
    exact GC.ret (fun _ _ hf hs => post_tmp1 rfl rfl hf hs ⟨(w .i64 (x3.1 + 1)), rfl, h⟩)

def sh_ref02_form (C : Ctx) (p_v : T_api_Value) (K : Bool → Heap → Prop) (H : Heap) : Prop :=
  nw (T_api_Value.c p_v) (fun b1 H2 =>
 jn (α := Bool) (fun x4 H5 =>
 lp (α := Bool × Int) (x4, 0) H5 (fun x101 J102 H103 =>
 ldL H103 ((b1, 0).1, (b1, 0).2 + 3) fun x104 =>
 ift ((decide ((x101.2 : Int) < (Sl.len x104 : Int))) && x101.1)
 (ldL H103 ((b1, 0).1, (b1, 0).2 + 3) fun x108 =>
 ixa x108 x101.2 fun p110 =>
 ldT H103 T_api_Value.c (p110.1, p110.2 + (x101.2 : Int).toNat * 4) fun x115 =>
 c_ref02_form C x115 (fun r117 H118 =>
 J102 (r117, (w .i64 (x101.2 + 1))) H118) H103)
 (K x101.1 H103)))
 (fun J3 => ldI H2 .u8 ((b1, 0).1, (b1, 0).2 + 0) fun x7 =>
 ift ((x7 : Int) == 1)
 (ldI H2 .i64 ((b1, 0).1, (b1, 0).2 + 1) fun x10 =>
 jn (α := Bool) (fun b12 H18 =>
 jn (α := Bool) (fun b19 H25 =>
 jn (α := Bool) (fun b26 H32 =>
 J3 b26 H32)
 (fun J27 => ift b19
 (ldL H25 ((b1, 0).1, (b1, 0).2 + 3) fun x30 =>
 J27 (((Sl.len x30 : Int) : Int) == 0) H25)
 (J27 false H25)))
 (fun J20 => ift b12
 (ldS H18 ((b1, 0).1, (b1, 0).2 + 2) fun x23 =>
 J20 (x23 == ([] : Str)) H18)
 (J20 false H18)))
 (fun J13 => ift ((x10 : Int) == 0)
 (J13 true H2)
 (ldI H2 .i64 ((b1, 0).1, (b1, 0).2 + 1) fun x16 =>
 J13 ((x16 : Int) == 1) H2)))
 (ift ((x7 : Int) == 2)
 (ldS H2 ((b1, 0).1, (b1, 0).2 + 2) fun x34 =>
 jn (α := Bool) (fun b36 H42 =>
 J3 b36 H42)
 (fun J37 => ift (x34 == ([] : Str))
 (ldL H2 ((b1, 0).1, (b1, 0).2 + 3) fun x40 =>
 J37 (((Sl.len x40 : Int) : Int) == 0) H2)
 (J37 false H2)))
 (ift ((x7 : Int) == 3)
 (ldI H2 .i64 ((b1, 0).1, (b1, 0).2 + 1) fun x44 =>
 jn (α := Bool) (fun b46 H52 =>
 jn (α := Bool) (fun b53 H61 =>
 J3 b53 H61)
 (fun J54 => ift b46
 (ldS H52 ((b1, 0).1, (b1, 0).2 + 2) fun x57 =>
 c_ref02_Number C x57 (fun r59 H60 =>
 J54 r59 H60) H52)
 (J54 false H52)))
 (fun J47 => ift ((x44 : Int) == 0)
 (ldL H2 ((b1, 0).1, (b1, 0).2 + 3) fun x50 =>
 J47 (((Sl.len x50 : Int) : Int) == 0) H2)
 (J47 false H2)))
 (ift ((x7 : Int) == 4)
 (ldI H2 .i64 ((b1, 0).1, (b1, 0).2 + 1) fun x63 =>
 jn (α := Bool) (fun b65 H71 =>
 J3 b65 H71)
 (fun J66 => ift ((x63 : Int) == 0)
 (ldL H2 ((b1, 0).1, (b1, 0).2 + 3) fun x69 =>
 J66 (((Sl.len x69 : Int) : Int) == 0) H2)
 (J66 false H2)))
 (ift ((x7 : Int) == 5)
 (ldI H2 .i64 ((b1, 0).1, (b1, 0).2 + 1) fun x73 =>
 jn (α := Bool) (fun b75 H81 =>
 jn (α := Bool) (fun b82 H88 =>
 J3 b82 H88)
 (fun J83 => ift b75
 (ldL H81 ((b1, 0).1, (b1, 0).2 + 3) fun x86 =>
 J83 (((Sl.len x86 : Int) : Int) != 1) H81)
 (J83 false H81)))
 (fun J76 => ift ((x73 : Int) == 0)
 (ldS H2 ((b1, 0).1, (b1, 0).2 + 2) fun x79 =>
 J76 (x79 == ([] : Str)) H2)
 (J76 false H2)))
 (ift ((x7 : Int) == 6)
 (ldI H2 .i64 ((b1, 0).1, (b1, 0).2 + 1) fun x90 =>
 jn (α := Bool) (fun b92 H100 =>
 J3 b92 H100)
 (fun J93 => ift ((x90 : Int) == 0)
 (ldS H2 ((b1, 0).1, (b1, 0).2 + 2) fun x96 =>
 c_ref02_Names C x96 (fun r98 H99 =>
 J93 r98 H99) H2)
 (J93 false H2)))
 (J3 false H2)))))))) H

theorem ad_ref02_form (C : Ctx) (p_v : T_api_Value) (K : Bool → Heap → Prop) (H : Heap) (h : sh_ref02_form C p_v K H) : c_ref02_form C p_v K H := by
  refine Spec.enter Tryd.func57 rfl Tryd.ntmps57 rfl ?_
  refine GC.sub [(0, .agg (T_api_Value.c p_v).toArray)] ⟨rfl, trivial⟩ ?_
  refine GC.seq ?_
  refine GC.region ?_
  refine GL.box (v := .agg (T_api_Value.c p_v).toArray) (cs := T_api_Value.c p_v) h trivial rfl rfl rfl ?_
  intro b1 H2 h
  refine GL.val trivial rfl (OV.assign (v := .bool false) rfl) ?_
  refine GL.nil ?_
  refine GC.seq ?_
  refine GC.region ?_
  refine GL.val trivial rfl (OV.assign (v := .bool false) rfl) ?_
  refine GL.nil ?_
  obtain ⟨J3, h, hR6⟩ := h
  refine GC.join (α := Bool) J3 (fun x4 => [(3, .bool x4), (1, pv (some (b1, 0)))]) ?_ ?_
  · skip
    refine GC.seq ?_
    refine GC.region ?_
    refine GL.val trivial rfl (OV.fieldAddr (p := (b1, 0)) rfl rfl) ?_
    obtain ⟨x7, hr8, h⟩ := h
    refine GL.val trivial rfl (OV.load (p := ((b1, 0).1, (b1, 0).2 + 0)) rfl rfl hr8) ?_
    refine GL.nil ?_
    refine GC.block ?_
    refine GC.seq ?_
    refine GC.region ?_
    refine GL.val trivial rfl (OV.ibin (v := .bool ((x7 : Int) == 1)) rfl rfl rfl) ?_
    refine GL.val trivial rfl (OV.assign (v := .bool ((x7 : Int) == 1)) rfl) ?_
    refine GL.nil ?_
    refine GC.cond (b := (x7 : Int) == 1) rfl (fun hc9 => ?_) (fun hc9 => ?_)
    · replace h := And.left h hc9
      refine GC.region ?_
      refine GL.val trivial rfl (OV.fieldAddr (p := (b1, 0)) rfl rfl) ?_
      obtain ⟨x10, hr11, h⟩ := h
      refine GL.val trivial rfl (OV.load (p := ((b1, 0).1, (b1, 0).2 + 1)) rfl rfl hr11) ?_
      refine GL.val trivial rfl (OV.ibin (v := .bool ((x10 : Int) == 0)) rfl rfl rfl) ?_
      refine GL.val trivial rfl (OV.move (v := .bool ((x10 : Int) == 0)) rfl) ?_
      obtain ⟨J13, h, hR14⟩ := h
      refine GL.cut (α := Bool) 4 J13 (fun b12 => [(16, .bool b12), (1, pv (some (b1, 0)))]) ?_ ?_
      · rcases Bool.eq_false_or_eq_true ((x10 : Int) == 0) with hc15 | hc15
        · skip
          replace h := And.left h hc15
          refine GL.skip ⟨_, rfl, .inl ⟨_, rfl, hc15⟩⟩ rfl ?_
          refine GL.skip ⟨_, rfl, .inl ⟨_, rfl, hc15⟩⟩ rfl ?_
          refine GL.skip ⟨_, rfl, .inl ⟨_, rfl, hc15⟩⟩ rfl ?_
          refine GL.val trivial rfl (OV.pickT (b := (x10 : Int) == 0) (v := .bool true) rfl hc15 rfl) ?_
          exact GL.jump (fun _ _ h => h) true h ⟨rfl, rfl, trivial⟩
        · skip
          replace h := And.right h hc15
          refine GL.val ⟨_, _, rfl, rfl, hc15⟩ rfl (OV.fieldAddr (p := (b1, 0)) rfl rfl) ?_
          obtain ⟨x16, hr17, h⟩ := h
          refine GL.val ⟨_, _, rfl, rfl, hc15⟩ rfl (OV.load (p := ((b1, 0).1, (b1, 0).2 + 1)) rfl rfl hr17) ?_
          refine GL.val ⟨_, _, rfl, rfl, hc15⟩ rfl (OV.ibin (v := .bool ((x16 : Int) == 1)) rfl rfl rfl) ?_
          refine GL.val trivial rfl (OV.pickF (b := (x10 : Int) == 0) (v := .bool ((x16 : Int) == 1)) rfl hc15 rfl) ?_
          exact GL.jump (fun _ _ h => h) ((x16 : Int) == 1) h ⟨rfl, rfl, trivial⟩
      intro b12 H18 h
      replace h := hR14 b12 H18 h
      refine GL.val trivial rfl (OV.move (v := .bool b12) rfl) ?_
      obtain ⟨J20, h, hR21⟩ := h
      refine GL.cut (α := Bool) 4 J20 (fun b19 => [(21, .bool b19), (1, pv (some (b1, 0)))]) ?_ ?_
      · rcases Bool.eq_false_or_eq_true b12 with hc22 | hc22
        · skip
          replace h := And.left h hc22
          refine GL.val ⟨_, _, rfl, rfl, hc22⟩ rfl (OV.fieldAddr (p := (b1, 0)) rfl rfl) ?_
          obtain ⟨x23, hr24, h⟩ := h
          refine GL.val ⟨_, _, rfl, rfl, hc22⟩ rfl (OV.load (p := ((b1, 0).1, (b1, 0).2 + 2)) rfl rfl hr24) ?_
          refine GL.val ⟨_, _, rfl, rfl, hc22⟩ rfl (OV.sbin (a := x23) (b := ([] : Str)) (v := .bool (x23 == ([] : Str))) rfl rfl rfl) ?_
          refine GL.val trivial rfl (OV.pickT (b := b12) (v := .bool (x23 == ([] : Str))) rfl hc22 rfl) ?_
          exact GL.jump (fun _ _ h => h) (x23 == ([] : Str)) h ⟨rfl, rfl, trivial⟩
        · skip
          replace h := And.right h hc22
          refine GL.skip ⟨_, rfl, .inl ⟨_, rfl, hc22⟩⟩ rfl ?_
          refine GL.skip ⟨_, rfl, .inl ⟨_, rfl, hc22⟩⟩ rfl ?_
          refine GL.skip ⟨_, rfl, .inl ⟨_, rfl, hc22⟩⟩ rfl ?_
          refine GL.val trivial rfl (OV.pickF (b := b12) (v := .bool false) rfl hc22 rfl) ?_
          exact GL.jump (fun _ _ h => h) false h ⟨rfl, rfl, trivial⟩
      intro b19 H25 h
      replace h := hR21 b19 H25 h
      refine GL.val trivial rfl (OV.move (v := .bool b19) rfl) ?_
      obtain ⟨J27, h, hR28⟩ := h
      refine GL.cut (α := Bool) 5 J27 (fun b26 => [(27, .bool b26), (1, pv (some (b1, 0)))]) ?_ ?_
      · rcases Bool.eq_false_or_eq_true b19 with hc29 | hc29
        · skip
          replace h := And.left h hc29
          refine GL.val ⟨_, _, rfl, rfl, hc29⟩ rfl (OV.fieldAddr (p := (b1, 0)) rfl rfl) ?_
          obtain ⟨x30, hr31, h⟩ := h
          refine GL.val ⟨_, _, rfl, rfl, hc29⟩ rfl (OV.load (p := ((b1, 0).1, (b1, 0).2 + 3)) rfl rfl hr31) ?_
          refine GL.val ⟨_, _, rfl, rfl, hc29⟩ rfl (OV.lenSl (s := x30) rfl rfl) ?_
          refine GL.val ⟨_, _, rfl, rfl, hc29⟩ rfl (OV.ibin (v := .bool (((Sl.len x30 : Int) : Int) == 0)) rfl rfl rfl) ?_
          refine GL.val trivial rfl (OV.pickT (b := b19) (v := .bool (((Sl.len x30 : Int) : Int) == 0)) rfl hc29 rfl) ?_
          exact GL.jump (fun _ _ h => h) (((Sl.len x30 : Int) : Int) == 0) h ⟨rfl, rfl, trivial⟩
        · skip
          replace h := And.right h hc29
          refine GL.skip ⟨_, rfl, .inl ⟨_, rfl, hc29⟩⟩ rfl ?_
          refine GL.skip ⟨_, rfl, .inl ⟨_, rfl, hc29⟩⟩ rfl ?_
          refine GL.skip ⟨_, rfl, .inl ⟨_, rfl, hc29⟩⟩ rfl ?_
          refine GL.skip ⟨_, rfl, .inl ⟨_, rfl, hc29⟩⟩ rfl ?_
          refine GL.val trivial rfl (OV.pickF (b := b19) (v := .bool false) rfl hc29 rfl) ?_
          exact GL.jump (fun _ _ h => h) false h ⟨rfl, rfl, trivial⟩
      intro b26 H32 h
      replace h := hR28 b26 H32 h
      refine GL.val trivial rfl (OV.assign (v := .bool b26) rfl) ?_
      exact GL.jump (fun _ _ h => h) b26 h ⟨rfl, rfl, trivial⟩
    · replace h := And.right h hc9
      refine GC.seq ?_
      refine GC.region ?_
      refine GL.val trivial rfl (OV.ibin (v := .bool ((x7 : Int) == 2)) rfl rfl rfl) ?_
      refine GL.val trivial rfl (OV.assign (v := .bool ((x7 : Int) == 2)) rfl) ?_
      refine GL.nil ?_
      refine GC.cond (b := (x7 : Int) == 2) rfl (fun hc33 => ?_) (fun hc33 => ?_)
      · replace h := And.left h hc33
        refine GC.region ?_
        refine GL.val trivial rfl (OV.fieldAddr (p := (b1, 0)) rfl rfl) ?_
        obtain ⟨x34, hr35, h⟩ := h
        refine GL.val trivial rfl (OV.load (p := ((b1, 0).1, (b1, 0).2 + 2)) rfl rfl hr35) ?_
        refine GL.val trivial rfl (OV.sbin (a := x34) (b := ([] : Str)) (v := .bool (x34 == ([] : Str))) rfl rfl rfl) ?_
        refine GL.val trivial rfl (OV.move (v := .bool (x34 == ([] : Str))) rfl) ?_
        obtain ⟨J37, h, hR38⟩ := h
        refine GL.cut (α := Bool) 5 J37 (fun b36 => [(38, .bool b36), (1, pv (some (b1, 0)))]) ?_ ?_
        · rcases Bool.eq_false_or_eq_true (x34 == ([] : Str)) with hc39 | hc39
          · skip
            replace h := And.left h hc39
            refine GL.val ⟨_, _, rfl, rfl, hc39⟩ rfl (OV.fieldAddr (p := (b1, 0)) rfl rfl) ?_
            obtain ⟨x40, hr41, h⟩ := h
            refine GL.val ⟨_, _, rfl, rfl, hc39⟩ rfl (OV.load (p := ((b1, 0).1, (b1, 0).2 + 3)) rfl rfl hr41) ?_
            refine GL.val ⟨_, _, rfl, rfl, hc39⟩ rfl (OV.lenSl (s := x40) rfl rfl) ?_
            refine GL.val ⟨_, _, rfl, rfl, hc39⟩ rfl (OV.ibin (v := .bool (((Sl.len x40 : Int) : Int) == 0)) rfl rfl rfl) ?_
            refine GL.val trivial rfl (OV.pickT (b := x34 == ([] : Str)) (v := .bool (((Sl.len x40 : Int) : Int) == 0)) rfl hc39 rfl) ?_
            exact GL.jump (fun _ _ h => h) (((Sl.len x40 : Int) : Int) == 0) h ⟨rfl, rfl, trivial⟩
          · skip
            replace h := And.right h hc39
            refine GL.skip ⟨_, rfl, .inl ⟨_, rfl, hc39⟩⟩ rfl ?_
            refine GL.skip ⟨_, rfl, .inl ⟨_, rfl, hc39⟩⟩ rfl ?_
            refine GL.skip ⟨_, rfl, .inl ⟨_, rfl, hc39⟩⟩ rfl ?_
            refine GL.skip ⟨_, rfl, .inl ⟨_, rfl, hc39⟩⟩ rfl ?_
            refine GL.val trivial rfl (OV.pickF (b := x34 == ([] : Str)) (v := .bool false) rfl hc39 rfl) ?_
            exact GL.jump (fun _ _ h => h) false h ⟨rfl, rfl, trivial⟩
        intro b36 H42 h
        replace h := hR38 b36 H42 h
        refine GL.val trivial rfl (OV.assign (v := .bool b36) rfl) ?_
        exact GL.jump (fun _ _ h => h) b36 h ⟨rfl, rfl, trivial⟩
      · replace h := And.right h hc33
        refine GC.seq ?_
        refine GC.region ?_
        refine GL.val trivial rfl (OV.ibin (v := .bool ((x7 : Int) == 3)) rfl rfl rfl) ?_
        refine GL.val trivial rfl (OV.assign (v := .bool ((x7 : Int) == 3)) rfl) ?_
        refine GL.nil ?_
        refine GC.cond (b := (x7 : Int) == 3) rfl (fun hc43 => ?_) (fun hc43 => ?_)
        · replace h := And.left h hc43
          refine GC.region ?_
          refine GL.val trivial rfl (OV.fieldAddr (p := (b1, 0)) rfl rfl) ?_
          obtain ⟨x44, hr45, h⟩ := h
          refine GL.val trivial rfl (OV.load (p := ((b1, 0).1, (b1, 0).2 + 1)) rfl rfl hr45) ?_
          refine GL.val trivial rfl (OV.ibin (v := .bool ((x44 : Int) == 0)) rfl rfl rfl) ?_
          refine GL.val trivial rfl (OV.move (v := .bool ((x44 : Int) == 0)) rfl) ?_
          obtain ⟨J47, h, hR48⟩ := h
          refine GL.cut (α := Bool) 5 J47 (fun b46 => [(49, .bool b46), (1, pv (some (b1, 0)))]) ?_ ?_
          · rcases Bool.eq_false_or_eq_true ((x44 : Int) == 0) with hc49 | hc49
            · skip
              replace h := And.left h hc49
              refine GL.val ⟨_, _, rfl, rfl, hc49⟩ rfl (OV.fieldAddr (p := (b1, 0)) rfl rfl) ?_
              obtain ⟨x50, hr51, h⟩ := h
              refine GL.val ⟨_, _, rfl, rfl, hc49⟩ rfl (OV.load (p := ((b1, 0).1, (b1, 0).2 + 3)) rfl rfl hr51) ?_
              refine GL.val ⟨_, _, rfl, rfl, hc49⟩ rfl (OV.lenSl (s := x50) rfl rfl) ?_
              refine GL.val ⟨_, _, rfl, rfl, hc49⟩ rfl (OV.ibin (v := .bool (((Sl.len x50 : Int) : Int) == 0)) rfl rfl rfl) ?_
              refine GL.val trivial rfl (OV.pickT (b := (x44 : Int) == 0) (v := .bool (((Sl.len x50 : Int) : Int) == 0)) rfl hc49 rfl) ?_
              exact GL.jump (fun _ _ h => h) (((Sl.len x50 : Int) : Int) == 0) h ⟨rfl, rfl, trivial⟩
            · skip
              replace h := And.right h hc49
              refine GL.skip ⟨_, rfl, .inl ⟨_, rfl, hc49⟩⟩ rfl ?_
              refine GL.skip ⟨_, rfl, .inl ⟨_, rfl, hc49⟩⟩ rfl ?_
              refine GL.skip ⟨_, rfl, .inl ⟨_, rfl, hc49⟩⟩ rfl ?_
              refine GL.skip ⟨_, rfl, .inl ⟨_, rfl, hc49⟩⟩ rfl ?_
              refine GL.val trivial rfl (OV.pickF (b := (x44 : Int) == 0) (v := .bool false) rfl hc49 rfl) ?_
              exact GL.jump (fun _ _ h => h) false h ⟨rfl, rfl, trivial⟩
          intro b46 H52 h
          replace h := hR48 b46 H52 h
          refine GL.val trivial rfl (OV.move (v := .bool b46) rfl) ?_
          obtain ⟨J54, h, hR55⟩ := h
          refine GL.cut (α := Bool) 4 J54 (fun b53 => [(54, .bool b53), (1, pv (some (b1, 0)))]) ?_ ?_
          · rcases Bool.eq_false_or_eq_true b46 with hc56 | hc56
            · skip
              replace h := And.left h hc56
              refine GL.val ⟨_, _, rfl, rfl, hc56⟩ rfl (OV.fieldAddr (p := (b1, 0)) rfl rfl) ?_
              obtain ⟨x57, hr58, h⟩ := h
              refine GL.val ⟨_, _, rfl, rfl, hc56⟩ rfl (OV.load (p := ((b1, 0).1, (b1, 0).2 + 2)) rfl rfl hr58) ?_
              refine GL.call h ⟨_, _, rfl, rfl, hc56⟩ rfl ok_ref02_Number (vs := [sv x57]) rfl ?_
              rintro _ H60 ⟨r59, rfl, h⟩
              refine GL.val trivial rfl (OV.pickT (b := b46) (v := .bool r59) rfl hc56 rfl) ?_
              exact GL.jump (fun _ _ h => h) r59 h ⟨rfl, rfl, trivial⟩
            · skip
              replace h := And.right h hc56
              refine GL.skip ⟨_, rfl, .inl ⟨_, rfl, hc56⟩⟩ rfl ?_
              refine GL.skip ⟨_, rfl, .inl ⟨_, rfl, hc56⟩⟩ rfl ?_
              refine GL.skip ⟨_, rfl, .inl ⟨_, rfl, hc56⟩⟩ rfl ?_
              refine GL.val trivial rfl (OV.pickF (b := b46) (v := .bool false) rfl hc56 rfl) ?_
              exact GL.jump (fun _ _ h => h) false h ⟨rfl, rfl, trivial⟩
          intro b53 H61 h
          replace h := hR55 b53 H61 h
          refine GL.val trivial rfl (OV.assign (v := .bool b53) rfl) ?_
          exact GL.jump (fun _ _ h => h) b53 h ⟨rfl, rfl, trivial⟩
        · replace h := And.right h hc43
          refine GC.seq ?_
          refine GC.region ?_
          refine GL.val trivial rfl (OV.ibin (v := .bool ((x7 : Int) == 4)) rfl rfl rfl) ?_
          refine GL.val trivial rfl (OV.assign (v := .bool ((x7 : Int) == 4)) rfl) ?_
          refine GL.nil ?_
          refine GC.cond (b := (x7 : Int) == 4) rfl (fun hc62 => ?_) (fun hc62 => ?_)
          · replace h := And.left h hc62
            refine GC.region ?_
            refine GL.val trivial rfl (OV.fieldAddr (p := (b1, 0)) rfl rfl) ?_
            obtain ⟨x63, hr64, h⟩ := h
            refine GL.val trivial rfl (OV.load (p := ((b1, 0).1, (b1, 0).2 + 1)) rfl rfl hr64) ?_
            refine GL.val trivial rfl (OV.ibin (v := .bool ((x63 : Int) == 0)) rfl rfl rfl) ?_
            refine GL.val trivial rfl (OV.move (v := .bool ((x63 : Int) == 0)) rfl) ?_
            obtain ⟨J66, h, hR67⟩ := h
            refine GL.cut (α := Bool) 5 J66 (fun b65 => [(65, .bool b65), (1, pv (some (b1, 0)))]) ?_ ?_
            · rcases Bool.eq_false_or_eq_true ((x63 : Int) == 0) with hc68 | hc68
              · skip
                replace h := And.left h hc68
                refine GL.val ⟨_, _, rfl, rfl, hc68⟩ rfl (OV.fieldAddr (p := (b1, 0)) rfl rfl) ?_
                obtain ⟨x69, hr70, h⟩ := h
                refine GL.val ⟨_, _, rfl, rfl, hc68⟩ rfl (OV.load (p := ((b1, 0).1, (b1, 0).2 + 3)) rfl rfl hr70) ?_
                refine GL.val ⟨_, _, rfl, rfl, hc68⟩ rfl (OV.lenSl (s := x69) rfl rfl) ?_
                refine GL.val ⟨_, _, rfl, rfl, hc68⟩ rfl (OV.ibin (v := .bool (((Sl.len x69 : Int) : Int) == 0)) rfl rfl rfl) ?_
                refine GL.val trivial rfl (OV.pickT (b := (x63 : Int) == 0) (v := .bool (((Sl.len x69 : Int) : Int) == 0)) rfl hc68 rfl) ?_
                exact GL.jump (fun _ _ h => h) (((Sl.len x69 : Int) : Int) == 0) h ⟨rfl, rfl, trivial⟩
              · skip
                replace h := And.right h hc68
                refine GL.skip ⟨_, rfl, .inl ⟨_, rfl, hc68⟩⟩ rfl ?_
                refine GL.skip ⟨_, rfl, .inl ⟨_, rfl, hc68⟩⟩ rfl ?_
                refine GL.skip ⟨_, rfl, .inl ⟨_, rfl, hc68⟩⟩ rfl ?_
                refine GL.skip ⟨_, rfl, .inl ⟨_, rfl, hc68⟩⟩ rfl ?_
                refine GL.val trivial rfl (OV.pickF (b := (x63 : Int) == 0) (v := .bool false) rfl hc68 rfl) ?_
                exact GL.jump (fun _ _ h => h) false h ⟨rfl, rfl, trivial⟩
            intro b65 H71 h
            replace h := hR67 b65 H71 h
            refine GL.val trivial rfl (OV.assign (v := .bool b65) rfl) ?_
            exact GL.jump (fun _ _ h => h) b65 h ⟨rfl, rfl, trivial⟩
          · replace h := And.right h hc62
            refine GC.seq ?_
            refine GC.region ?_
            refine GL.val trivial rfl (OV.ibin (v := .bool ((x7 : Int) == 5)) rfl rfl rfl) ?_
            refine GL.val trivial rfl (OV.assign (v := .bool ((x7 : Int) == 5)) rfl) ?_
            refine GL.nil ?_
            refine GC.cond (b := (x7 : Int) == 5) rfl (fun hc72 => ?_) (fun hc72 => ?_)
            · replace h := And.left h hc72
              refine GC.region ?_
              refine GL.val trivial rfl (OV.fieldAddr (p := (b1, 0)) rfl rfl) ?_
              obtain ⟨x73, hr74, h⟩ := h
              refine GL.val trivial rfl (OV.load (p := ((b1, 0).1, (b1, 0).2 + 1)) rfl rfl hr74) ?_
              refine GL.val trivial rfl (OV.ibin (v := .bool ((x73 : Int) == 0)) rfl rfl rfl) ?_
              refine GL.val trivial rfl (OV.move (v := .bool ((x73 : Int) == 0)) rfl) ?_
              obtain ⟨J76, h, hR77⟩ := h
              refine GL.cut (α := Bool) 4 J76 (fun b75 => [(75, .bool b75), (1, pv (some (b1, 0)))]) ?_ ?_
              · rcases Bool.eq_false_or_eq_true ((x73 : Int) == 0) with hc78 | hc78
                · skip
                  replace h := And.left h hc78
                  refine GL.val ⟨_, _, rfl, rfl, hc78⟩ rfl (OV.fieldAddr (p := (b1, 0)) rfl rfl) ?_
                  obtain ⟨x79, hr80, h⟩ := h
                  refine GL.val ⟨_, _, rfl, rfl, hc78⟩ rfl (OV.load (p := ((b1, 0).1, (b1, 0).2 + 2)) rfl rfl hr80) ?_
                  refine GL.val ⟨_, _, rfl, rfl, hc78⟩ rfl (OV.sbin (a := x79) (b := ([] : Str)) (v := .bool (x79 == ([] : Str))) rfl rfl rfl) ?_
                  refine GL.val trivial rfl (OV.pickT (b := (x73 : Int) == 0) (v := .bool (x79 == ([] : Str))) rfl hc78 rfl) ?_
                  exact GL.jump (fun _ _ h => h) (x79 == ([] : Str)) h ⟨rfl, rfl, trivial⟩
                · skip
                  replace h := And.right h hc78
                  refine GL.skip ⟨_, rfl, .inl ⟨_, rfl, hc78⟩⟩ rfl ?_
                  refine GL.skip ⟨_, rfl, .inl ⟨_, rfl, hc78⟩⟩ rfl ?_
                  refine GL.skip ⟨_, rfl, .inl ⟨_, rfl, hc78⟩⟩ rfl ?_
                  refine GL.val trivial rfl (OV.pickF (b := (x73 : Int) == 0) (v := .bool false) rfl hc78 rfl) ?_
                  exact GL.jump (fun _ _ h => h) false h ⟨rfl, rfl, trivial⟩
              intro b75 H81 h
              replace h := hR77 b75 H81 h
              refine GL.val trivial rfl (OV.move (v := .bool b75) rfl) ?_
              obtain ⟨J83, h, hR84⟩ := h
              refine GL.cut (α := Bool) 5 J83 (fun b82 => [(81, .bool b82), (1, pv (some (b1, 0)))]) ?_ ?_
              · rcases Bool.eq_false_or_eq_true b75 with hc85 | hc85
                · skip
                  replace h := And.left h hc85
                  refine GL.val ⟨_, _, rfl, rfl, hc85⟩ rfl (OV.fieldAddr (p := (b1, 0)) rfl rfl) ?_
                  obtain ⟨x86, hr87, h⟩ := h
                  refine GL.val ⟨_, _, rfl, rfl, hc85⟩ rfl (OV.load (p := ((b1, 0).1, (b1, 0).2 + 3)) rfl rfl hr87) ?_
                  refine GL.val ⟨_, _, rfl, rfl, hc85⟩ rfl (OV.lenSl (s := x86) rfl rfl) ?_
                  refine GL.val ⟨_, _, rfl, rfl, hc85⟩ rfl (OV.ibin (v := .bool (((Sl.len x86 : Int) : Int) != 1)) rfl rfl rfl) ?_
                  refine GL.val trivial rfl (OV.pickT (b := b75) (v := .bool (((Sl.len x86 : Int) : Int) != 1)) rfl hc85 rfl) ?_
                  exact GL.jump (fun _ _ h => h) (((Sl.len x86 : Int) : Int) != 1) h ⟨rfl, rfl, trivial⟩
                · skip
                  replace h := And.right h hc85
                  refine GL.skip ⟨_, rfl, .inl ⟨_, rfl, hc85⟩⟩ rfl ?_
                  refine GL.skip ⟨_, rfl, .inl ⟨_, rfl, hc85⟩⟩ rfl ?_
                  refine GL.skip ⟨_, rfl, .inl ⟨_, rfl, hc85⟩⟩ rfl ?_
                  refine GL.skip ⟨_, rfl, .inl ⟨_, rfl, hc85⟩⟩ rfl ?_
                  refine GL.val trivial rfl (OV.pickF (b := b75) (v := .bool false) rfl hc85 rfl) ?_
                  exact GL.jump (fun _ _ h => h) false h ⟨rfl, rfl, trivial⟩
              intro b82 H88 h
              replace h := hR84 b82 H88 h
              refine GL.val trivial rfl (OV.assign (v := .bool b82) rfl) ?_
              exact GL.jump (fun _ _ h => h) b82 h ⟨rfl, rfl, trivial⟩
            · replace h := And.right h hc72
              refine GC.seq ?_
              refine GC.region ?_
              refine GL.val trivial rfl (OV.ibin (v := .bool ((x7 : Int) == 6)) rfl rfl rfl) ?_
              refine GL.val trivial rfl (OV.assign (v := .bool ((x7 : Int) == 6)) rfl) ?_
              refine GL.nil ?_
              refine GC.cond (b := (x7 : Int) == 6) rfl (fun hc89 => ?_) (fun hc89 => ?_)
              · replace h := And.left h hc89
                refine GC.region ?_
                refine GL.val trivial rfl (OV.fieldAddr (p := (b1, 0)) rfl rfl) ?_
                obtain ⟨x90, hr91, h⟩ := h
                refine GL.val trivial rfl (OV.load (p := ((b1, 0).1, (b1, 0).2 + 1)) rfl rfl hr91) ?_
                refine GL.val trivial rfl (OV.ibin (v := .bool ((x90 : Int) == 0)) rfl rfl rfl) ?_
                refine GL.val trivial rfl (OV.move (v := .bool ((x90 : Int) == 0)) rfl) ?_
                obtain ⟨J93, h, hR94⟩ := h
                refine GL.cut (α := Bool) 4 J93 (fun b92 => [(91, .bool b92), (1, pv (some (b1, 0)))]) ?_ ?_
                · rcases Bool.eq_false_or_eq_true ((x90 : Int) == 0) with hc95 | hc95
                  · skip
                    replace h := And.left h hc95
                    refine GL.val ⟨_, _, rfl, rfl, hc95⟩ rfl (OV.fieldAddr (p := (b1, 0)) rfl rfl) ?_
                    obtain ⟨x96, hr97, h⟩ := h
                    refine GL.val ⟨_, _, rfl, rfl, hc95⟩ rfl (OV.load (p := ((b1, 0).1, (b1, 0).2 + 2)) rfl rfl hr97) ?_
                    refine GL.call h ⟨_, _, rfl, rfl, hc95⟩ rfl ok_ref02_Names (vs := [sv x96]) rfl ?_
                    rintro _ H99 ⟨r98, rfl, h⟩
                    refine GL.val trivial rfl (OV.pickT (b := (x90 : Int) == 0) (v := .bool r98) rfl hc95 rfl) ?_
                    exact GL.jump (fun _ _ h => h) r98 h ⟨rfl, rfl, trivial⟩
                  · skip
                    replace h := And.right h hc95
                    refine GL.skip ⟨_, rfl, .inl ⟨_, rfl, hc95⟩⟩ rfl ?_
                    refine GL.skip ⟨_, rfl, .inl ⟨_, rfl, hc95⟩⟩ rfl ?_
                    refine GL.skip ⟨_, rfl, .inl ⟨_, rfl, hc95⟩⟩ rfl ?_
                    refine GL.val trivial rfl (OV.pickF (b := (x90 : Int) == 0) (v := .bool false) rfl hc95 rfl) ?_
                    exact GL.jump (fun _ _ h => h) false h ⟨rfl, rfl, trivial⟩
                intro b92 H100 h
                replace h := hR94 b92 H100 h
                refine GL.val trivial rfl (OV.assign (v := .bool b92) rfl) ?_
                exact GL.jump (fun _ _ h => h) b92 h ⟨rfl, rfl, trivial⟩
              · replace h := And.right h hc89
                exact GC.jump (fun _ _ h => h) false h ⟨rfl, rfl, trivial⟩
  · intro x4 H5 h
    replace h := hR6 x4 H5 h
    refine GC.seq ?_
    refine GC.seq ?_
    refine GC.region ?_
    refine GL.val trivial rfl (OV.assign (v := .int .i64 0) rfl) ?_
    refine GL.nil ?_
    refine GC.block ?_
    refine GC.loop (α := Bool × Int) h (fun x101 => [(3, .bool x101.1), (4, .int .i64 x101.2), (1, pv (some (b1, 0)))]) ⟨rfl, rfl, rfl, trivial⟩ ?_
    intro x101 H103 J102 h
    refine GC.seq ?_
    refine GC.seq ?_
    refine GC.region ?_
    refine GL.val trivial rfl (OV.move (v := .int .i64 x101.2) rfl) ?_
    refine GL.val trivial rfl (OV.fieldAddr (p := (b1, 0)) rfl rfl) ?_
    obtain ⟨x104, hr105, h⟩ := h
    refine GL.val trivial rfl (OV.load (p := ((b1, 0).1, (b1, 0).2 + 3)) rfl rfl hr105) ?_
    refine GL.val trivial rfl (OV.lenSl (s := x104) rfl rfl) ?_
    refine GL.val trivial rfl (OV.ibin (v := .bool (decide ((x101.2 : Int) < (Sl.len x104 : Int)))) rfl rfl rfl) ?_
    refine GL.val trivial rfl (OV.move (v := .bool (decide ((x101.2 : Int) < (Sl.len x104 : Int)))) rfl) ?_
    refine GL.cut0 2 [(99, .bool ((decide ((x101.2 : Int) < (Sl.len x104 : Int))) && x101.1)), (1, pv (some (b1, 0))), (3, .bool x101.1), (4, .int .i64 x101.2)] ?_ ?_
    · rcases Bool.eq_false_or_eq_true (decide ((x101.2 : Int) < (Sl.len x104 : Int))) with hc106 | hc106
      · skip
        refine GL.val ⟨_, _, rfl, rfl, hc106⟩ rfl (OV.move (v := .bool x101.1) rfl) ?_
        refine GL.val trivial rfl (OV.pickT (b := decide ((x101.2 : Int) < (Sl.len x104 : Int))) (v := .bool x101.1) rfl hc106 rfl) ?_
        exact GL.jump0 (fun _ _ h => h) () rfl ⟨(by rw [hc106]; rfl), rfl, rfl, rfl, trivial⟩
      · skip
        refine GL.skip ⟨_, rfl, .inl ⟨_, rfl, hc106⟩⟩ rfl ?_
        refine GL.val trivial rfl (OV.pickF (b := decide ((x101.2 : Int) < (Sl.len x104 : Int))) (v := .bool false) rfl hc106 rfl) ?_
        exact GL.jump0 (fun _ _ h => h) () rfl ⟨(by rw [hc106]; rfl), rfl, rfl, rfl, trivial⟩
    refine GL.nil ?_
    refine GC.cond (b := (decide ((x101.2 : Int) < (Sl.len x104 : Int))) && x101.1) rfl (fun hc107 => ?_) (fun hc107 => ?_)
    · replace h := And.left h hc107
      refine GC.skip ?_
      refine GC.seq ?_
      refine GC.block ?_
      refine GC.region ?_
      refine GL.val trivial rfl (OV.fieldAddr (p := (b1, 0)) rfl rfl) ?_
      obtain ⟨x108, hr109, h⟩ := h
      refine GL.val trivial rfl (OV.load (p := ((b1, 0).1, (b1, 0).2 + 3)) rfl rfl hr109) ?_
      refine GL.val trivial rfl (OV.move (v := .int .i64 x101.2) rfl) ?_
      obtain ⟨p110, ha111, hb112, hc113, hd114, h⟩ := h
      refine GL.val trivial rfl (OV.indexAddr (s := x108) rfl rfl rfl rfl ha111 hb112 hc113 hd114) ?_
      obtain ⟨x115, hr116, h⟩ := h
      refine GL.val trivial rfl (OV.loadT (p := (p110.1, p110.2 + (x101.2 : Int).toNat * 4)) (cs := T_api_Value.c x115) rfl rfl rfl hr116) ?_
      refine GL.call h trivial rfl ok_ref02_form (vs := [.agg (T_api_Value.c x115).toArray]) rfl ?_
      rintro _ H118 ⟨r117, rfl, h⟩
      refine GL.val trivial rfl (OV.assign (v := .bool r117) rfl) ?_
      refine GL.nil_to (fun _ _ h => h) ?_
      refine GC.region ?_
      refine GL.val trivial rfl (OV.move (v := .int .i64 x101.2) rfl) ?_
      refine GL.val trivial rfl (OV.ibin (v := .int .i64 (w .i64 (x101.2 + 1))) rfl rfl rfl) ?_
      refine GL.val trivial rfl (OV.assign (v := .int .i64 (w .i64 (x101.2 + 1))) rfl) ?_
      exact GL.jump (fun _ _ h => h) (r117, (w .i64 (x101.2 + 1))) h ⟨rfl, rfl, rfl, trivial⟩
    · replace h := And.right h hc107
      refine GC.exit_to (fun _ _ h => h) ?_
      refine GC.seq ?_
      refine GC.region ?_
      refine GL.val trivial rfl (OV.move (v := .bool x101.1) rfl) ?_
      refine GL.val trivial rfl (OV.assign (v := .bool x101.1) rfl) ?_
      refine GL.nil ?_
      exact GC.ret (fun _ _ hf hs => post_tmp1 rfl rfl hf hs ⟨x101.1, rfl, h⟩)

def sh_ref02_fits (C : Ctx) (p_v : T_api_Value) (K : Bool → Heap → Prop) (H : Heap) : Prop :=
  nw (T_api_Value.c p_v) (fun b1 H2 =>
 jn (α := Bool) (fun x4 H5 =>
 lp (α := Bool × Int) (x4, 0) H5 (fun x23 J24 H25 =>
 ldL H25 ((b1, 0).1, (b1, 0).2 + 3) fun x26 =>
 ift ((decide ((x23.2 : Int) < (Sl.len x26 : Int))) && x23.1)
 (ldL H25 ((b1, 0).1, (b1, 0).2 + 3) fun x30 =>
 ixa x30 x23.2 fun p32 =>
 ldT H25 T_api_Value.c (p32.1, p32.2 + (x23.2 : Int).toNat * 4) fun x37 =>
 c_ref02_fits C x37 (fun r39 H40 =>
 J24 (r39, (w .i64 (x23.2 + 1))) H40) H25)
 (K x23.1 H25)))
 (fun J3 => ldI H2 .u8 ((b1, 0).1, (b1, 0).2 + 0) fun x7 =>
 ift ((x7 : Int) == 3)
 (ldS H2 ((b1, 0).1, (b1, 0).2 + 2) fun x10 =>
 c_ref02_Digits C x10 (fun r12 H13 =>
 J3 (decide ((r12 : Int) ≤ 200)) H13) H2)
 (ift ((x7 : Int) == 4)
 (ldS H2 ((b1, 0).1, (b1, 0).2 + 2) fun x15 =>
 J3 (decide (((List.length x15 : Int) : Int) ≤ 4096)) H2)
 (ift ((x7 : Int) == 5)
 (ldL H2 ((b1, 0).1, (b1, 0).2 + 3) fun x18 =>
 J3 (decide (((Sl.len x18 : Int) : Int) ≤ 16)) H2)
 (ift ((x7 : Int) == 6)
 (ldL H2 ((b1, 0).1, (b1, 0).2 + 3) fun x21 =>
 J3 (decide (((Sl.len x21 : Int) : Int) ≤ 8)) H2)
 (J3 true H2)))))) H

theorem ad_ref02_fits (C : Ctx) (p_v : T_api_Value) (K : Bool → Heap → Prop) (H : Heap) (h : sh_ref02_fits C p_v K H) : c_ref02_fits C p_v K H := by
  refine Spec.enter Tryd.func58 rfl Tryd.ntmps58 rfl ?_
  refine GC.sub [(0, .agg (T_api_Value.c p_v).toArray)] ⟨rfl, trivial⟩ ?_
  refine GC.seq ?_
  refine GC.region ?_
  refine GL.box (v := .agg (T_api_Value.c p_v).toArray) (cs := T_api_Value.c p_v) h trivial rfl rfl rfl ?_
  intro b1 H2 h
  refine GL.val trivial rfl (OV.assign (v := .bool false) rfl) ?_
  refine GL.nil ?_
  refine GC.seq ?_
  refine GC.region ?_
  refine GL.val trivial rfl (OV.assign (v := .bool true) rfl) ?_
  refine GL.nil ?_
  obtain ⟨J3, h, hR6⟩ := h
  refine GC.join (α := Bool) J3 (fun x4 => [(3, .bool x4), (1, pv (some (b1, 0)))]) ?_ ?_
  · skip
    refine GC.seq ?_
    refine GC.region ?_
    refine GL.val trivial rfl (OV.fieldAddr (p := (b1, 0)) rfl rfl) ?_
    obtain ⟨x7, hr8, h⟩ := h
    refine GL.val trivial rfl (OV.load (p := ((b1, 0).1, (b1, 0).2 + 0)) rfl rfl hr8) ?_
    refine GL.nil ?_
    refine GC.block ?_
    refine GC.seq ?_
    refine GC.region ?_
    refine GL.val trivial rfl (OV.ibin (v := .bool ((x7 : Int) == 3)) rfl rfl rfl) ?_
    refine GL.val trivial rfl (OV.assign (v := .bool ((x7 : Int) == 3)) rfl) ?_
    refine GL.nil ?_
    refine GC.cond (b := (x7 : Int) == 3) rfl (fun hc9 => ?_) (fun hc9 => ?_)
    · replace h := And.left h hc9
      refine GC.region ?_
      refine GL.val trivial rfl (OV.fieldAddr (p := (b1, 0)) rfl rfl) ?_
      obtain ⟨x10, hr11, h⟩ := h
      refine GL.val trivial rfl (OV.load (p := ((b1, 0).1, (b1, 0).2 + 2)) rfl rfl hr11) ?_
      refine GL.call h trivial rfl ok_ref02_Digits (vs := [sv x10]) rfl ?_
      rintro _ H13 ⟨r12, rfl, h⟩
      refine GL.val trivial rfl (OV.ibin (v := .bool (decide ((r12 : Int) ≤ 200))) rfl rfl rfl) ?_
      refine GL.val trivial rfl (OV.assign (v := .bool (decide ((r12 : Int) ≤ 200))) rfl) ?_
      exact GL.jump (fun _ _ h => h) (decide ((r12 : Int) ≤ 200)) h ⟨rfl, rfl, trivial⟩
    · replace h := And.right h hc9
      refine GC.seq ?_
      refine GC.region ?_
      refine GL.val trivial rfl (OV.ibin (v := .bool ((x7 : Int) == 4)) rfl rfl rfl) ?_
      refine GL.val trivial rfl (OV.assign (v := .bool ((x7 : Int) == 4)) rfl) ?_
      refine GL.nil ?_
      refine GC.cond (b := (x7 : Int) == 4) rfl (fun hc14 => ?_) (fun hc14 => ?_)
      · replace h := And.left h hc14
        refine GC.region ?_
        refine GL.val trivial rfl (OV.fieldAddr (p := (b1, 0)) rfl rfl) ?_
        obtain ⟨x15, hr16, h⟩ := h
        refine GL.val trivial rfl (OV.load (p := ((b1, 0).1, (b1, 0).2 + 2)) rfl rfl hr16) ?_
        refine GL.val trivial rfl (OV.lenStr (s := x15) rfl rfl) ?_
        refine GL.val trivial rfl (OV.ibin (v := .bool (decide (((List.length x15 : Int) : Int) ≤ 4096))) rfl rfl rfl) ?_
        refine GL.val trivial rfl (OV.assign (v := .bool (decide (((List.length x15 : Int) : Int) ≤ 4096))) rfl) ?_
        exact GL.jump (fun _ _ h => h) (decide (((List.length x15 : Int) : Int) ≤ 4096)) h ⟨rfl, rfl, trivial⟩
      · replace h := And.right h hc14
        refine GC.seq ?_
        refine GC.region ?_
        refine GL.val trivial rfl (OV.ibin (v := .bool ((x7 : Int) == 5)) rfl rfl rfl) ?_
        refine GL.val trivial rfl (OV.assign (v := .bool ((x7 : Int) == 5)) rfl) ?_
        refine GL.nil ?_
        refine GC.cond (b := (x7 : Int) == 5) rfl (fun hc17 => ?_) (fun hc17 => ?_)
        · replace h := And.left h hc17
          refine GC.region ?_
          refine GL.val trivial rfl (OV.fieldAddr (p := (b1, 0)) rfl rfl) ?_
          obtain ⟨x18, hr19, h⟩ := h
          refine GL.val trivial rfl (OV.load (p := ((b1, 0).1, (b1, 0).2 + 3)) rfl rfl hr19) ?_
          refine GL.val trivial rfl (OV.lenSl (s := x18) rfl rfl) ?_
          refine GL.val trivial rfl (OV.ibin (v := .bool (decide (((Sl.len x18 : Int) : Int) ≤ 16))) rfl rfl rfl) ?_
          refine GL.val trivial rfl (OV.assign (v := .bool (decide (((Sl.len x18 : Int) : Int) ≤ 16))) rfl) ?_
          exact GL.jump (fun _ _ h => h) (decide (((Sl.len x18 : Int) : Int) ≤ 16)) h ⟨rfl, rfl, trivial⟩
        · replace h := And.right h hc17
          refine GC.seq ?_
          refine GC.region ?_
          refine GL.val trivial rfl (OV.ibin (v := .bool ((x7 : Int) == 6)) rfl rfl rfl) ?_
          refine GL.val trivial rfl (OV.assign (v := .bool ((x7 : Int) == 6)) rfl) ?_
          refine GL.nil ?_
          refine GC.cond (b := (x7 : Int) == 6) rfl (fun hc20 => ?_) (fun hc20 => ?_)
          · replace h := And.left h hc20
            refine GC.region ?_
            refine GL.val trivial rfl (OV.fieldAddr (p := (b1, 0)) rfl rfl) ?_
            obtain ⟨x21, hr22, h⟩ := h
            refine GL.val trivial rfl (OV.load (p := ((b1, 0).1, (b1, 0).2 + 3)) rfl rfl hr22) ?_
            refine GL.val trivial rfl (OV.lenSl (s := x21) rfl rfl) ?_
            refine GL.val trivial rfl (OV.ibin (v := .bool (decide (((Sl.len x21 : Int) : Int) ≤ 8))) rfl rfl rfl) ?_
            refine GL.val trivial rfl (OV.assign (v := .bool (decide (((Sl.len x21 : Int) : Int) ≤ 8))) rfl) ?_
            exact GL.jump (fun _ _ h => h) (decide (((Sl.len x21 : Int) : Int) ≤ 8)) h ⟨rfl, rfl, trivial⟩
          · replace h := And.right h hc20
            exact GC.jump (fun _ _ h => h) true h ⟨rfl, rfl, trivial⟩
  · intro x4 H5 h
    replace h := hR6 x4 H5 h
    refine GC.seq ?_
    refine GC.seq ?_
    refine GC.region ?_
    refine GL.val trivial rfl (OV.assign (v := .int .i64 0) rfl) ?_
    refine GL.nil ?_
    refine GC.block ?_
    refine GC.loop (α := Bool × Int) h (fun x23 => [(3, .bool x23.1), (4, .int .i64 x23.2), (1, pv (some (b1, 0)))]) ⟨rfl, rfl, rfl, trivial⟩ ?_
    intro x23 H25 J24 h
    refine GC.seq ?_
    refine GC.seq ?_
    refine GC.region ?_
    refine GL.val trivial rfl (OV.move (v := .int .i64 x23.2) rfl) ?_
    refine GL.val trivial rfl (OV.fieldAddr (p := (b1, 0)) rfl rfl) ?_
    obtain ⟨x26, hr27, h⟩ := h
    refine GL.val trivial rfl (OV.load (p := ((b1, 0).1, (b1, 0).2 + 3)) rfl rfl hr27) ?_
    refine GL.val trivial rfl (OV.lenSl (s := x26) rfl rfl) ?_
    refine GL.val trivial rfl (OV.ibin (v := .bool (decide ((x23.2 : Int) < (Sl.len x26 : Int)))) rfl rfl rfl) ?_
    refine GL.val trivial rfl (OV.move (v := .bool (decide ((x23.2 : Int) < (Sl.len x26 : Int)))) rfl) ?_
    refine GL.cut0 2 [(38, .bool ((decide ((x23.2 : Int) < (Sl.len x26 : Int))) && x23.1)), (1, pv (some (b1, 0))), (3, .bool x23.1), (4, .int .i64 x23.2)] ?_ ?_
    · rcases Bool.eq_false_or_eq_true (decide ((x23.2 : Int) < (Sl.len x26 : Int))) with hc28 | hc28
      · skip
        refine GL.val ⟨_, _, rfl, rfl, hc28⟩ rfl (OV.move (v := .bool x23.1) rfl) ?_
        refine GL.val trivial rfl (OV.pickT (b := decide ((x23.2 : Int) < (Sl.len x26 : Int))) (v := .bool x23.1) rfl hc28 rfl) ?_
        exact GL.jump0 (fun _ _ h => h) () rfl ⟨(by rw [hc28]; rfl), rfl, rfl, rfl, trivial⟩
      · skip
        refine GL.skip ⟨_, rfl, .inl ⟨_, rfl, hc28⟩⟩ rfl ?_
        refine GL.val trivial rfl (OV.pickF (b := decide ((x23.2 : Int) < (Sl.len x26 : Int))) (v := .bool false) rfl hc28 rfl) ?_
        exact GL.jump0 (fun _ _ h => h) () rfl ⟨(by rw [hc28]; rfl), rfl, rfl, rfl, trivial⟩
    refine GL.nil ?_
    refine GC.cond (b := (decide ((x23.2 : Int) < (Sl.len x26 : Int))) && x23.1) rfl (fun hc29 => ?_) (fun hc29 => ?_)
    · replace h := And.left h hc29
      refine GC.skip ?_
      refine GC.seq ?_
      refine GC.block ?_
      refine GC.region ?_
      refine GL.val trivial rfl (OV.fieldAddr (p := (b1, 0)) rfl rfl) ?_
      obtain ⟨x30, hr31, h⟩ := h
      refine GL.val trivial rfl (OV.load (p := ((b1, 0).1, (b1, 0).2 + 3)) rfl rfl hr31) ?_
      refine GL.val trivial rfl (OV.move (v := .int .i64 x23.2) rfl) ?_
      obtain ⟨p32, ha33, hb34, hc35, hd36, h⟩ := h
      refine GL.val trivial rfl (OV.indexAddr (s := x30) rfl rfl rfl rfl ha33 hb34 hc35 hd36) ?_
      obtain ⟨x37, hr38, h⟩ := h
      refine GL.val trivial rfl (OV.loadT (p := (p32.1, p32.2 + (x23.2 : Int).toNat * 4)) (cs := T_api_Value.c x37) rfl rfl rfl hr38) ?_
      refine GL.call h trivial rfl ok_ref02_fits (vs := [.agg (T_api_Value.c x37).toArray]) rfl ?_
      rintro _ H40 ⟨r39, rfl, h⟩
      refine GL.val trivial rfl (OV.assign (v := .bool r39) rfl) ?_
      refine GL.nil_to (fun _ _ h => h) ?_
      refine GC.region ?_
      refine GL.val trivial rfl (OV.move (v := .int .i64 x23.2) rfl) ?_
      refine GL.val trivial rfl (OV.ibin (v := .int .i64 (w .i64 (x23.2 + 1))) rfl rfl rfl) ?_
      refine GL.val trivial rfl (OV.assign (v := .int .i64 (w .i64 (x23.2 + 1))) rfl) ?_
      exact GL.jump (fun _ _ h => h) (r39, (w .i64 (x23.2 + 1))) h ⟨rfl, rfl, rfl, trivial⟩
    · replace h := And.right h hc29
      refine GC.exit_to (fun _ _ h => h) ?_
      refine GC.seq ?_
      refine GC.region ?_
      refine GL.val trivial rfl (OV.move (v := .bool x23.1) rfl) ?_
      refine GL.val trivial rfl (OV.assign (v := .bool x23.1) rfl) ?_
      refine GL.nil ?_
      exact GC.ret (fun _ _ hf hs => post_tmp1 rfl rfl hf hs ⟨x23.1, rfl, h⟩)

def sh_ref02_Row (C : Ctx) (p_l : Sl) (K : Bool → Heap → Prop) (H : Heap) : Prop :=
  lp (α := Int) 0 H (fun x1 J2 H3 =>
 ift (decide ((x1 : Int) < (Sl.len p_l : Int)))
 (ixa p_l x1 fun p5 =>
 ldT H3 T_api_Value.c (p5.1, p5.2 + (x1 : Int).toNat * 4) fun x10 =>
 c_ref02_Check C x10 (fun r12 H13 =>
 ift ((r12 : Int) != 0)
 (K false H13)
 (J2 (w .i64 (x1 + 1)) H13)) H3)
 (K true H3))

theorem ad_ref02_Row (C : Ctx) (p_l : Sl) (K : Bool → Heap → Prop) (H : Heap) (h : sh_ref02_Row C p_l K H) : c_ref02_Row C p_l K H := by
  refine Spec.enter Tryd.func59 rfl Tryd.ntmps59 rfl ?_
  refine GC.sub [(0, slv p_l)] ⟨rfl, trivial⟩ ?_
  refine GC.seq ?_
  refine GC.region ?_
  refine GL.val trivial rfl (OV.assign (v := .bool false) rfl) ?_
  refine GL.nil ?_
  refine GC.seq ?_
  refine GC.seq ?_
  refine GC.region ?_
  refine GL.val trivial rfl (OV.assign (v := .int .i64 0) rfl) ?_
  refine GL.nil ?_
  refine GC.block ?_
  refine GC.loop (α := Int) h (fun x1 => [(3, .int .i64 x1), (0, slv p_l)]) ⟨rfl, rfl, trivial⟩ ?_
  intro x1 H3 J2 h
  refine GC.seq ?_
  refine GC.seq ?_
  refine GC.region ?_
  refine GL.val trivial rfl (OV.move (v := .int .i64 x1) rfl) ?_
  refine GL.val trivial rfl (OV.move (v := slv p_l) rfl) ?_
  refine GL.val trivial rfl (OV.lenSl (s := p_l) rfl rfl) ?_
  refine GL.val trivial rfl (OV.ibin (v := .bool (decide ((x1 : Int) < (Sl.len p_l : Int)))) rfl rfl rfl) ?_
  refine GL.nil ?_
  refine GC.cond (b := decide ((x1 : Int) < (Sl.len p_l : Int))) rfl (fun hc4 => ?_) (fun hc4 => ?_)
  · replace h := And.left h hc4
    refine GC.skip ?_
    refine GC.seq ?_
    refine GC.block ?_
    refine GC.seq ?_
    refine GC.region ?_
    refine GL.val trivial rfl (OV.move (v := slv p_l) rfl) ?_
    refine GL.val trivial rfl (OV.move (v := .int .i64 x1) rfl) ?_
    obtain ⟨p5, ha6, hb7, hc8, hd9, h⟩ := h
    refine GL.val trivial rfl (OV.indexAddr (s := p_l) rfl rfl rfl rfl ha6 hb7 hc8 hd9) ?_
    obtain ⟨x10, hr11, h⟩ := h
    refine GL.val trivial rfl (OV.loadT (p := (p5.1, p5.2 + (x1 : Int).toNat * 4)) (cs := T_api_Value.c x10) rfl rfl rfl hr11) ?_
    refine GL.call h trivial rfl ok_ref02_Check (vs := [.agg (T_api_Value.c x10).toArray]) rfl ?_
    rintro _ H13 ⟨r12, rfl, h⟩
    refine GL.val trivial rfl (OV.ibin (v := .bool ((r12 : Int) != 0)) rfl rfl rfl) ?_
    refine GL.nil ?_
    refine GC.cond (b := (r12 : Int) != 0) rfl (fun hc14 => ?_) (fun hc14 => ?_)
    · replace h := And.left h hc14
      refine GC.seq ?_
      refine GC.region ?_
      refine GL.val trivial rfl (OV.assign (v := .bool false) rfl) ?_
      refine GL.nil ?_
      exact GC.ret (fun _ _ hf hs => post_tmp1 rfl rfl hf hs ⟨false, rfl, h⟩)
    · replace h := And.right h hc14
      refine GC.skip_to (fun _ _ h => h) ?_
      refine GC.region ?_
      refine GL.val trivial rfl (OV.move (v := .int .i64 x1) rfl) ?_
      refine GL.val trivial rfl (OV.ibin (v := .int .i64 (w .i64 (x1 + 1))) rfl rfl rfl) ?_
      refine GL.val trivial rfl (OV.assign (v := .int .i64 (w .i64 (x1 + 1))) rfl) ?_
      exact GL.jump (fun _ _ h => h) (w .i64 (x1 + 1)) h ⟨rfl, rfl, trivial⟩
  · replace h := And.right h hc4
    refine GC.exit_to (fun _ _ h => h) ?_
    refine GC.seq ?_
    refine GC.region ?_
    refine GL.val trivial rfl (OV.assign (v := .bool true) rfl) ?_
    refine GL.nil ?_
    exact GC.ret (fun _ _ hf hs => post_tmp1 rfl rfl hf hs ⟨true, rfl, h⟩)

def sh_ref02_rows (C : Ctx) (p_a : Sl) (p_b : Sl) (K : Int → Heap → Prop) (H : Heap) : Prop :=
  lp (α := Int) 0 H (fun x1 J2 H3 =>
 ift ((decide ((x1 : Int) < (Sl.len p_a : Int))) && (decide ((x1 : Int) < (Sl.len p_b : Int))))
 (dr H3 fun Hs6 =>
 ixa p_a x1 fun p8 =>
 ldT Hs6 T_api_Value.c (p8.1, p8.2 + (x1 : Int).toNat * 4) fun x13 =>
 ixa p_b x1 fun p15 =>
 ldT Hs6 T_api_Value.c (p15.1, p15.2 + (x1 : Int).toNat * 4) fun x20 =>
 c_ref02_cmp C x13 x20 (fun r23 H24 =>
 Heap.le Hs6 H24 ∧
 ift ((r23 : Int) != 0)
 (K r23 H24)
 (J2 (w .i64 (x1 + 1)) H24)) H3)
 (c_ref02_ints C (Sl.len p_a : Int) (Sl.len p_b : Int) (fun r26 H27 =>
 K r26 H27) H3))

theorem ad_ref02_rows (C : Ctx) (p_a : Sl) (p_b : Sl) (K : Int → Heap → Prop) (H : Heap) (h : sh_ref02_rows C p_a p_b K H) : c_ref02_rows C p_a p_b K H := by
  refine Spec.enter Tryd.func60 rfl Tryd.ntmps60 rfl ?_
  refine GC.sub [(0, slv p_a), (1, slv p_b)] ⟨rfl, rfl, trivial⟩ ?_
  refine GC.seq ?_
  refine GC.region ?_
  refine GL.val trivial rfl (OV.assign (v := .int .i64 0) rfl) ?_
  refine GL.nil ?_
  refine GC.seq ?_
  refine GC.seq ?_
  refine GC.region ?_
  refine GL.val trivial rfl (OV.assign (v := .int .i64 0) rfl) ?_
  refine GL.nil ?_
  refine GC.block ?_
  refine GC.loop (α := Int) h (fun x1 => [(5, .int .i64 x1), (0, slv p_a), (1, slv p_b)]) ⟨rfl, rfl, rfl, trivial⟩ ?_
  intro x1 H3 J2 h
  refine GC.seq ?_
  refine GC.seq ?_
  refine GC.region ?_
  refine GL.val trivial rfl (OV.move (v := .int .i64 x1) rfl) ?_
  refine GL.val trivial rfl (OV.move (v := slv p_a) rfl) ?_
  refine GL.val trivial rfl (OV.lenSl (s := p_a) rfl rfl) ?_
  refine GL.val trivial rfl (OV.ibin (v := .bool (decide ((x1 : Int) < (Sl.len p_a : Int)))) rfl rfl rfl) ?_
  refine GL.val trivial rfl (OV.move (v := .bool (decide ((x1 : Int) < (Sl.len p_a : Int)))) rfl) ?_
  refine GL.cut0 5 [(16, .bool ((decide ((x1 : Int) < (Sl.len p_a : Int))) && (decide ((x1 : Int) < (Sl.len p_b : Int))))), (0, slv p_a), (1, slv p_b), (5, .int .i64 x1)] ?_ ?_
  · rcases Bool.eq_false_or_eq_true (decide ((x1 : Int) < (Sl.len p_a : Int))) with hc4 | hc4
    · skip
      refine GL.val ⟨_, _, rfl, rfl, hc4⟩ rfl (OV.move (v := .int .i64 x1) rfl) ?_
      refine GL.val ⟨_, _, rfl, rfl, hc4⟩ rfl (OV.move (v := slv p_b) rfl) ?_
      refine GL.val ⟨_, _, rfl, rfl, hc4⟩ rfl (OV.lenSl (s := p_b) rfl rfl) ?_
      refine GL.val ⟨_, _, rfl, rfl, hc4⟩ rfl (OV.ibin (v := .bool (decide ((x1 : Int) < (Sl.len p_b : Int)))) rfl rfl rfl) ?_
      refine GL.val trivial rfl (OV.pickT (b := decide ((x1 : Int) < (Sl.len p_a : Int))) (v := .bool (decide ((x1 : Int) < (Sl.len p_b : Int)))) rfl hc4 rfl) ?_
      exact GL.jump0 (fun _ _ h => h) () rfl ⟨(by rw [hc4]; rfl), rfl, rfl, rfl, trivial⟩
    · skip
      refine GL.skip ⟨_, rfl, .inl ⟨_, rfl, hc4⟩⟩ rfl ?_
      refine GL.skip ⟨_, rfl, .inl ⟨_, rfl, hc4⟩⟩ rfl ?_
      refine GL.skip ⟨_, rfl, .inl ⟨_, rfl, hc4⟩⟩ rfl ?_
      refine GL.skip ⟨_, rfl, .inl ⟨_, rfl, hc4⟩⟩ rfl ?_
      refine GL.val trivial rfl (OV.pickF (b := decide ((x1 : Int) < (Sl.len p_a : Int))) (v := .bool false) rfl hc4 rfl) ?_
      exact GL.jump0 (fun _ _ h => h) () rfl ⟨(by rw [hc4]; rfl), rfl, rfl, rfl, trivial⟩
  refine GL.nil ?_
  refine GC.cond (b := (decide ((x1 : Int) < (Sl.len p_a : Int))) && (decide ((x1 : Int) < (Sl.len p_b : Int)))) rfl (fun hc5 => ?_) (fun hc5 => ?_)
  · replace h := And.left h hc5
    refine GC.skip ?_
    refine GC.seq ?_
    refine GC.block ?_
    refine GC.seq ?_
    obtain ⟨Hs6, hle7, h⟩ := h
    refine GC.any (Hs := Hs6) (by kernel_rfl) hle7 ?_
    refine GA.take 0 rfl (by kernel_rfl) (by kernel_rfl) (by kernel_rfl) (fun _ _ _ h => by obtain ⟨_, _, _, h, _⟩ := h; cases h) trivial rfl (OV.move (v := slv p_a) rfl) ?_
    refine GA.take 1 rfl (by kernel_rfl) (by kernel_rfl) (by kernel_rfl) (fun _ _ _ h => by obtain ⟨_, _, _, h, _⟩ := h; cases h) trivial rfl (OV.move (v := .int .i64 x1) rfl) ?_
    obtain ⟨p8, ha9, hb10, hc11, hd12, h⟩ := h
    refine GA.take 2 rfl (by kernel_rfl) (by kernel_rfl) (by kernel_rfl) (fun _ _ _ h => by obtain ⟨_, _, _, h, _⟩ := h; cases h) trivial rfl (OV.indexAddr (s := p_a) rfl rfl rfl rfl ha9 hb10 hc11 hd12) ?_
    obtain ⟨x13, hr14, h⟩ := h
    refine GA.take 3 rfl (by kernel_rfl) (by kernel_rfl) (by kernel_rfl) (fun _ _ _ h => by obtain ⟨_, _, _, h, _⟩ := h; cases h) trivial rfl (OV.loadT (p := (p8.1, p8.2 + (x1 : Int).toNat * 4)) (cs := T_api_Value.c x13) rfl rfl rfl hr14) ?_
    refine GA.take 4 rfl (by kernel_rfl) (by kernel_rfl) (by kernel_rfl) (fun _ _ _ h => by obtain ⟨_, _, _, h, _⟩ := h; cases h) trivial rfl (OV.move (v := slv p_b) rfl) ?_
    refine GA.take 5 rfl (by kernel_rfl) (by kernel_rfl) (by kernel_rfl) (fun _ _ _ h => by obtain ⟨_, _, _, h, _⟩ := h; cases h) trivial rfl (OV.move (v := .int .i64 x1) rfl) ?_
    obtain ⟨p15, ha16, hb17, hc18, hd19, h⟩ := h
    refine GA.take 6 rfl (by kernel_rfl) (by kernel_rfl) (by kernel_rfl) (fun _ _ _ h => by obtain ⟨_, _, _, h, _⟩ := h; cases h) trivial rfl (OV.indexAddr (s := p_b) rfl rfl rfl rfl ha16 hb17 hc18 hd19) ?_
    obtain ⟨x20, hr21, h⟩ := h
    refine GA.take 7 rfl (by kernel_rfl) (by kernel_rfl) (by kernel_rfl) (fun _ _ _ h => by obtain ⟨_, _, _, h, _⟩ := h; cases h) trivial rfl (OV.loadT (p := (p15.1, p15.2 + (x1 : Int).toNat * 4)) (cs := T_api_Value.c x20) rfl rfl rfl hr21) ?_
    refine GA.eff 8 rfl (by kernel_rfl) ?_
    refine GL.call h trivial rfl ok_ref02_cmp (vs := [.agg (T_api_Value.c x13).toArray, .agg (T_api_Value.c x20).toArray]) rfl ?_
    rintro _ H24 ⟨r23, rfl, h⟩
    obtain ⟨hle22, h⟩ := h
    refine GA.back hle22 ?_
    refine GA.take 9 rfl (by kernel_rfl) (by kernel_rfl) (by kernel_rfl) (fun _ _ _ h => by obtain ⟨_, _, _, h, _⟩ := h; cases h) trivial rfl (OV.assign (v := .int .i64 r23) rfl) ?_
    refine GA.done (by kernel_rfl) ?_
    refine GL.nil ?_
    refine GC.seq ?_
    refine GC.region ?_
    refine GL.val trivial rfl (OV.move (v := .int .i64 r23) rfl) ?_
    refine GL.val trivial rfl (OV.ibin (v := .bool ((r23 : Int) != 0)) rfl rfl rfl) ?_
    refine GL.nil ?_
    refine GC.cond (b := (r23 : Int) != 0) rfl (fun hc25 => ?_) (fun hc25 => ?_)
    · replace h := And.left h hc25
      refine GC.seq ?_
      refine GC.region ?_
      refine GL.val trivial rfl (OV.move (v := .int .i64 r23) rfl) ?_
      refine GL.val trivial rfl (OV.assign (v := .int .i64 r23) rfl) ?_
      refine GL.nil ?_
      exact GC.ret (fun _ _ hf hs => post_tmp1 rfl rfl hf hs ⟨r23, rfl, h⟩)
    · replace h := And.right h hc25
      refine GC.skip_to (fun _ _ h => h) ?_
      refine GC.region ?_
      refine GL.val trivial rfl (OV.move (v := .int .i64 x1) rfl) ?_
      refine GL.val trivial rfl (OV.ibin (v := .int .i64 (w .i64 (x1 + 1))) rfl rfl rfl) ?_
      refine GL.val trivial rfl (OV.assign (v := .int .i64 (w .i64 (x1 + 1))) rfl) ?_
      exact GL.jump (fun _ _ h => h) (w .i64 (x1 + 1)) h ⟨rfl, rfl, rfl, trivial⟩
  · replace h := And.right h hc5
    refine GC.exit_to (fun _ _ h => h) ?_
    refine GC.seq ?_
    refine GC.region ?_
    refine GL.val trivial rfl (OV.move (v := slv p_a) rfl) ?_
    refine GL.val trivial rfl (OV.lenSl (s := p_a) rfl rfl) ?_
    refine GL.val trivial rfl (OV.move (v := slv p_b) rfl) ?_
    refine GL.val trivial rfl (OV.lenSl (s := p_b) rfl rfl) ?_
    refine GL.call h trivial rfl ok_ref02_ints (vs := [.int .i64 (Sl.len p_a : Int), .int .i64 (Sl.len p_b : Int)]) rfl ?_
    rintro _ H27 ⟨r26, rfl, h⟩
    refine GL.val trivial rfl (OV.assign (v := .int .i64 r26) rfl) ?_
    refine GL.nil ?_
    exact GC.ret (fun _ _ hf hs => post_tmp1 rfl rfl hf hs ⟨r26, rfl, h⟩)

def sh_slices_Clone_byte_byte (C : Ctx) (p_s : Sl) (K : Sl → Heap → Prop) (H : Heap) : Prop :=
  ift (Sl.isNil p_s)
 (K Sl.nil H)
 (nw ([]) (fun b2 H3 =>
 apS ([.int .u8 0]) 1 (Sl.of (some (b2, 0)) 0 0) p_s (fun r4 H5 =>
 K r4 H5) H3) H)

theorem ad_slices_Clone_byte_byte (C : Ctx) (p_s : Sl) (K : Sl → Heap → Prop) (H : Heap) (h : sh_slices_Clone_byte_byte C p_s K H) : c_slices_Clone_byte_byte C p_s K H := by
  refine Spec.enter Tryd.func61 rfl Tryd.ntmps61 rfl ?_
  refine GC.sub [(0, slv p_s)] ⟨rfl, trivial⟩ ?_
  refine GC.seq ?_
  refine GC.region ?_
  refine GL.val trivial rfl (OV.assign (v := slv Sl.nil) rfl) ?_
  refine GL.nil ?_
  refine GC.seq ?_
  refine GC.seq ?_
  refine GC.region ?_
  refine GL.val trivial rfl (OV.move (v := slv p_s) rfl) ?_
  refine GL.val trivial rfl (OV.eqlSl (s := p_s) rfl rfl rfl) ?_
  refine GL.nil ?_
  refine GC.cond (b := Sl.isNil p_s) rfl (fun hc1 => ?_) (fun hc1 => ?_)
  · replace h := And.left h hc1
    refine GC.seq ?_
    refine GC.region ?_
    refine GL.val trivial rfl (OV.assign (v := slv Sl.nil) rfl) ?_
    refine GL.nil ?_
    exact GC.ret (fun _ _ hf hs => post_tmp1 rfl rfl hf hs ⟨Sl.nil, rfl, h⟩)
  · replace h := And.right h hc1
    refine GC.skip ?_
    refine GC.seq ?_
    refine GC.region ?_
    refine GL.buildSlice (cs := []) h trivial rfl (vs := []) rfl ⟨5, fun _ => by kernel_rfl⟩ ?_
    intro b2 H3 h
    refine GL.val trivial rfl (OV.move (v := slv p_s) rfl) ?_
    refine GL.appendS (s := (Sl.of (some (b2, 0)) 0 0)) (s2 := p_s) (zc := [.int .u8 0]) (bytes := 1) h trivial rfl rfl rfl ⟨⟨_, _, _, rfl, rfl, rfl, rfl, rfl, rfl⟩⟩ rfl ?_
    intro r4 H5 h
    refine GL.val trivial rfl (OV.assign (v := slv r4) rfl) ?_
    refine GL.nil ?_
    exact GC.ret (fun _ _ hf hs => post_tmp1 rfl rfl hf hs ⟨r4, rfl, h⟩)

def sh_code_Reader_next (C : Ctx) (p_r : Option (Nat × Nat)) (K : Int → Heap → Prop) (H : Heap) : Prop :=
  nck p_r fun p1 =>
 ldL H (p1.1, p1.2 + 0) fun x3 =>
 c_code_Reader_ask C p_r (decide (((Sl.len x3 : Int) : Int) > 0)) (fun r5 H6 =>
 ift (!r5)
 (K 0 H6)
 (nck p_r fun p8 =>
 ldL H6 (p8.1, p8.2 + 0) fun x10 =>
 ixa x10 0 fun p12 =>
 ldI H6 .u8 (p12.1, p12.2 + (0 : Int).toNat * 1) fun x17 =>
 nck p_r fun p19 =>
 ldI H6 .u8 (p19.1, p19.2 + 1) fun x21 =>
 nck p_r fun p23 =>
 ldL H6 (p23.1, p23.2 + 0) fun x25 =>
 slL x25 1 (Sl.len x25 : Int) (Sl.cap x25 : Int) 1 fun t27 =>
 nck p_r fun p33 =>
 st (p33.1, p33.2 + 0) (slv t27) (fun H35 =>
 K (bXor .u8 x17 x21) H35) H6)) H

theorem ad_code_Reader_next (C : Ctx) (p_r : Option (Nat × Nat)) (K : Int → Heap → Prop) (H : Heap) (h : sh_code_Reader_next C p_r K H) : c_code_Reader_next C p_r K H := by
  refine Spec.enter Tryd.func62 rfl Tryd.ntmps62 rfl ?_
  refine GC.sub [(0, pv p_r)] ⟨rfl, trivial⟩ ?_
  refine GC.seq ?_
  refine GC.region ?_
  refine GL.val trivial rfl (OV.assign (v := .int .u8 0) rfl) ?_
  refine GL.nil ?_
  refine GC.seq ?_
  refine GC.seq ?_
  refine GC.region ?_
  refine GL.val trivial rfl (OV.move (v := pv p_r) rfl) ?_
  refine GL.val trivial rfl (OV.move (v := pv p_r) rfl) ?_
  obtain ⟨p1, hp2, h⟩ := h
  refine GL.val trivial rfl (OV.nilCheck (q := p_r) rfl hp2) ?_
  refine GL.val trivial rfl (OV.fieldAddr (p := p1) rfl rfl) ?_
  obtain ⟨x3, hr4, h⟩ := h
  refine GL.val trivial rfl (OV.load (p := (p1.1, p1.2 + 0)) rfl rfl hr4) ?_
  refine GL.val trivial rfl (OV.lenSl (s := x3) rfl rfl) ?_
  refine GL.val trivial rfl (OV.ibin (v := .bool (decide (((Sl.len x3 : Int) : Int) > 0))) rfl rfl rfl) ?_
  refine GL.call h trivial rfl ok_code_Reader_ask (vs := [pv p_r, .bool (decide (((Sl.len x3 : Int) : Int) > 0))]) rfl ?_
  rintro _ H6 ⟨r5, rfl, h⟩
  refine GL.val trivial rfl (OV.not rfl) ?_
  refine GL.nil ?_
  refine GC.cond (b := !r5) rfl (fun hc7 => ?_) (fun hc7 => ?_)
  · replace h := And.left h hc7
    refine GC.seq ?_
    refine GC.region ?_
    refine GL.val trivial rfl (OV.assign (v := .int .u8 0) rfl) ?_
    refine GL.nil ?_
    exact GC.ret (fun _ _ hf hs => post_tmp1 rfl rfl hf hs ⟨0, rfl, h⟩)
  · replace h := And.right h hc7
    refine GC.skip ?_
    refine GC.seq ?_
    refine GC.draw (by kernel_rfl) (by kernel_rfl) ?_
    refine GQ.val trivial rfl (OV.move (v := pv p_r) rfl) ?_
    obtain ⟨p8, hp9, h⟩ := h
    refine GQ.val trivial rfl (OV.nilCheck (q := p_r) rfl hp9) ?_
    refine GQ.val trivial rfl (OV.fieldAddr (p := p8) rfl rfl) ?_
    obtain ⟨x10, hr11, h⟩ := h
    refine GQ.val trivial rfl (OV.load (p := (p8.1, p8.2 + 0)) rfl rfl hr11) ?_
    obtain ⟨p12, ha13, hb14, hc15, hd16, h⟩ := h
    refine GQ.val trivial rfl (OV.indexAddr (s := x10) rfl rfl rfl rfl ha13 hb14 hc15 hd16) ?_
    obtain ⟨x17, hr18, h⟩ := h
    refine GQ.val trivial rfl (OV.load (p := (p12.1, p12.2 + (0 : Int).toNat * 1)) rfl rfl hr18) ?_
    refine GQ.val trivial rfl (OV.move (v := pv p_r) rfl) ?_
    obtain ⟨p19, hp20, h⟩ := h
    refine GQ.val trivial rfl (OV.nilCheck (q := p_r) rfl hp20) ?_
    refine GQ.val trivial rfl (OV.fieldAddr (p := p19) rfl rfl) ?_
    obtain ⟨x21, hr22, h⟩ := h
    refine GQ.val trivial rfl (OV.load (p := (p19.1, p19.2 + 1)) rfl rfl hr22) ?_
    refine GQ.val trivial rfl (OV.ibin (v := .int .u8 (bXor .u8 x17 x21)) rfl rfl rfl) ?_
    refine GQ.val trivial rfl (OV.assign (v := .int .u8 (bXor .u8 x17 x21)) rfl) ?_
    refine GQ.nil ?_
    refine GL.nil ?_
    refine GC.seq ?_
    refine GC.region ?_
    refine GL.val trivial rfl (OV.move (v := pv p_r) rfl) ?_
    refine GL.val trivial rfl (OV.move (v := pv p_r) rfl) ?_
    obtain ⟨p23, hp24, h⟩ := h
    refine GL.val trivial rfl (OV.nilCheck (q := p_r) rfl hp24) ?_
    refine GL.val trivial rfl (OV.fieldAddr (p := p23) rfl rfl) ?_
    obtain ⟨x25, hr26, h⟩ := h
    refine GL.val trivial rfl (OV.load (p := (p23.1, p23.2 + 0)) rfl rfl hr26) ?_
    obtain ⟨h28, h29, h30, h31, t27, h32, h⟩ := h
    refine GL.val trivial rfl (OV.sliceSl (s := x25) h28 h29 h30 h31 h32 rfl rfl rfl rfl rfl rfl rfl (fun h => by first | rfl | cases h) rfl rfl) ?_
    obtain ⟨p33, hp34, h⟩ := h
    refine GL.val trivial rfl (OV.nilCheck (q := p_r) rfl hp34) ?_
    refine GL.val trivial rfl (OV.fieldAddr (p := p33) rfl rfl) ?_
    refine GL.store (p := (p33.1, p33.2 + 0)) (v := slv t27) h trivial rfl rfl rfl rfl ?_
    intro H35 h
    refine GL.nil ?_
    refine GC.seq ?_
    refine GC.region ?_
    refine GL.val trivial rfl (OV.move (v := .int .u8 (bXor .u8 x17 x21)) rfl) ?_
    refine GL.val trivial rfl (OV.assign (v := .int .u8 (bXor .u8 x17 x21)) rfl) ?_
    refine GL.nil ?_
    exact GC.ret (fun _ _ hf hs => post_tmp1 rfl rfl hf hs ⟨(bXor .u8 x17 x21), rfl, h⟩)

def sh_code_Reader_flip (C : Ctx) (p_r : Option (Nat × Nat)) (p_is : Bool) (K : Heap → Prop) (H : Heap) : Prop :=
  ift p_is
 (nck p_r fun p2 =>
 ldI H .u8 (p2.1, p2.2 + 1) fun x4 =>
 nck p_r fun p6 =>
 st (p6.1, p6.2 + 1) (.int .u8 (bXor .u8 x4 255)) (fun H8 =>
 K H8) H)
 (K H)

theorem ad_code_Reader_flip (C : Ctx) (p_r : Option (Nat × Nat)) (p_is : Bool) (K : Heap → Prop) (H : Heap) (h : sh_code_Reader_flip C p_r p_is K H) : c_code_Reader_flip C p_r p_is K H := by
  refine Spec.enter Tryd.func63 rfl Tryd.ntmps63 rfl ?_
  refine GC.sub [(0, pv p_r), (1, .bool p_is)] ⟨rfl, rfl, trivial⟩ ?_
  refine GC.seq ?_
  refine GC.region ?_
  refine GL.val trivial rfl (OV.move (v := .bool p_is) rfl) ?_
  refine GL.nil ?_
  refine GC.cond (b := p_is) rfl (fun hc1 => ?_) (fun hc1 => ?_)
  · replace h := And.left h hc1
    refine GC.region ?_
    refine GL.val trivial rfl (OV.move (v := pv p_r) rfl) ?_
    obtain ⟨p2, hp3, h⟩ := h
    refine GL.val trivial rfl (OV.nilCheck (q := p_r) rfl hp3) ?_
    refine GL.val trivial rfl (OV.fieldAddr (p := p2) rfl rfl) ?_
    obtain ⟨x4, hr5, h⟩ := h
    refine GL.val trivial rfl (OV.load (p := (p2.1, p2.2 + 1)) rfl rfl hr5) ?_
    refine GL.val trivial rfl (OV.ibin (v := .int .u8 (bXor .u8 x4 255)) rfl rfl rfl) ?_
    obtain ⟨p6, hp7, h⟩ := h
    refine GL.val trivial rfl (OV.nilCheck (q := p_r) rfl hp7) ?_
    refine GL.val trivial rfl (OV.fieldAddr (p := p6) rfl rfl) ?_
    refine GL.store (p := (p6.1, p6.2 + 1)) (v := .int .u8 (bXor .u8 x4 255)) h trivial rfl rfl rfl rfl ?_
    intro H8 h
    exact GL.ends (fun _ _ hf hs => post_tmp0 rfl hf hs ⟨rfl, h⟩)
  · replace h := And.right h hc1
    exact GC.ends (fun _ _ hf hs => post_tmp0 rfl hf hs ⟨rfl, h⟩)

def sh_code_Reader_number (C : Ctx) (p_r : Option (Nat × Nat)) (p_k : Int) (p_most : Int) (K : Int → Heap → Prop) (H : Heap) : Prop :=
  c_code_Reader_ask C p_r ((decide ((p_k : Int) ≥ 0)) && (decide ((p_k : Int) ≤ p_most))) (fun r2 H3 =>
 ift (!r2)
 (K 0 H3)
 (lp (α := Int × Int) (0, 0) H3 (fun x5 J6 H7 =>
 ift (decide ((x5.2 : Int) < p_k))
 (c_code_Reader_next C p_r (fun r9 H10 =>
 c_code_Reader_ask C p_r ((decide ((x5.2 : Int) > 0)) || ((r9 : Int) != 0)) (fun r12 H13 =>
 J6 ((bOr .u64 (sShl .u64 x5.1 8) (w .u64 r9)), (w .i64 (x5.2 + 1))) H13) H10) H7)
 (K x5.1 H7)))) H

theorem ad_code_Reader_number (C : Ctx) (p_r : Option (Nat × Nat)) (p_k : Int) (p_most : Int) (K : Int → Heap → Prop) (H : Heap) (h : sh_code_Reader_number C p_r p_k p_most K H) : c_code_Reader_number C p_r p_k p_most K H := by
  refine Spec.enter Tryd.func64 rfl Tryd.ntmps64 rfl ?_
  refine GC.sub [(0, pv p_r), (1, .int .i64 p_k), (2, .int .i64 p_most)] ⟨rfl, rfl, rfl, trivial⟩ ?_
  refine GC.seq ?_
  refine GC.region ?_
  refine GL.val trivial rfl (OV.assign (v := .int .u64 0) rfl) ?_
  refine GL.nil ?_
  refine GC.seq ?_
  refine GC.region ?_
  refine GL.val trivial rfl (OV.assign (v := .int .u64 0) rfl) ?_
  refine GL.nil ?_
  refine GC.seq ?_
  refine GC.seq ?_
  refine GC.region ?_
  refine GL.val trivial rfl (OV.move (v := pv p_r) rfl) ?_
  refine GL.val trivial rfl (OV.move (v := .int .i64 p_k) rfl) ?_
  refine GL.val trivial rfl (OV.ibin (v := .bool (decide ((p_k : Int) ≥ 0))) rfl rfl rfl) ?_
  refine GL.val trivial rfl (OV.move (v := .bool (decide ((p_k : Int) ≥ 0))) rfl) ?_
  refine GL.cut0 4 [(17, .bool ((decide ((p_k : Int) ≥ 0)) && (decide ((p_k : Int) ≤ p_most)))), (0, pv p_r), (1, .int .i64 p_k), (7, .int .u64 0), (10, pv p_r)] ?_ ?_
  · rcases Bool.eq_false_or_eq_true (decide ((p_k : Int) ≥ 0)) with hc1 | hc1
    · skip
      refine GL.val ⟨_, _, rfl, rfl, hc1⟩ rfl (OV.move (v := .int .i64 p_k) rfl) ?_
      refine GL.val ⟨_, _, rfl, rfl, hc1⟩ rfl (OV.move (v := .int .i64 p_most) rfl) ?_
      refine GL.val ⟨_, _, rfl, rfl, hc1⟩ rfl (OV.ibin (v := .bool (decide ((p_k : Int) ≤ p_most))) rfl rfl rfl) ?_
      refine GL.val trivial rfl (OV.pickT (b := decide ((p_k : Int) ≥ 0)) (v := .bool (decide ((p_k : Int) ≤ p_most))) rfl hc1 rfl) ?_
      exact GL.jump0 (fun _ _ h => h) () rfl ⟨(by rw [hc1]; rfl), rfl, rfl, rfl, rfl, trivial⟩
    · skip
      refine GL.skip ⟨_, rfl, .inl ⟨_, rfl, hc1⟩⟩ rfl ?_
      refine GL.skip ⟨_, rfl, .inl ⟨_, rfl, hc1⟩⟩ rfl ?_
      refine GL.skip ⟨_, rfl, .inl ⟨_, rfl, hc1⟩⟩ rfl ?_
      refine GL.val trivial rfl (OV.pickF (b := decide ((p_k : Int) ≥ 0)) (v := .bool false) rfl hc1 rfl) ?_
      exact GL.jump0 (fun _ _ h => h) () rfl ⟨(by rw [hc1]; rfl), rfl, rfl, rfl, rfl, trivial⟩
  refine GL.call h trivial rfl ok_code_Reader_ask (vs := [pv p_r, .bool ((decide ((p_k : Int) ≥ 0)) && (decide ((p_k : Int) ≤ p_most)))]) rfl ?_
  rintro _ H3 ⟨r2, rfl, h⟩
  refine GL.val trivial rfl (OV.not rfl) ?_
  refine GL.nil ?_
  refine GC.cond (b := !r2) rfl (fun hc4 => ?_) (fun hc4 => ?_)
  · replace h := And.left h hc4
    refine GC.seq ?_
    refine GC.region ?_
    refine GL.val trivial rfl (OV.assign (v := .int .u64 0) rfl) ?_
    refine GL.nil ?_
    exact GC.ret (fun _ _ hf hs => post_tmp1 rfl rfl hf hs ⟨0, rfl, h⟩)
  · replace h := And.right h hc4
    refine GC.skip ?_
    refine GC.seq ?_
    refine GC.seq ?_
    refine GC.region ?_
    refine GL.val trivial rfl (OV.move (v := .int .i64 p_k) rfl) ?_
    refine GL.val trivial rfl (OV.move (v := .int .i64 0) rfl) ?_
    refine GL.nil ?_
    refine GC.block ?_
    refine GC.loop (α := Int × Int) h (fun x5 => [(7, .int .u64 x5.1), (21, .int .i64 x5.2), (0, pv p_r), (20, .int .i64 p_k)]) ⟨rfl, rfl, rfl, rfl, trivial⟩ ?_
    intro x5 H7 J6 h
    refine GC.seq ?_
    refine GC.region ?_
    refine GL.val trivial rfl (OV.ibin (v := .bool (decide ((x5.2 : Int) < p_k))) rfl rfl rfl) ?_
    refine GL.nil ?_
    refine GC.seq ?_
    refine GC.cond (b := decide ((x5.2 : Int) < p_k)) rfl (fun hc8 => ?_) (fun hc8 => ?_)
    · replace h := And.left h hc8
      refine GC.skip ?_
      refine GC.seq ?_
      refine GC.block ?_
      refine GC.seq ?_
      refine GC.region ?_
      refine GL.val trivial rfl (OV.move (v := .int .i64 x5.2) rfl) ?_
      refine GL.val trivial rfl (OV.assign (v := .int .i64 x5.2) rfl) ?_
      refine GL.nil ?_
      refine GC.seq ?_
      refine GC.region ?_
      refine GL.val trivial rfl (OV.move (v := pv p_r) rfl) ?_
      refine GL.call h trivial rfl ok_code_Reader_next (vs := [pv p_r]) rfl ?_
      rintro _ H10 ⟨r9, rfl, h⟩
      refine GL.val trivial rfl (OV.assign (v := .int .u8 r9) rfl) ?_
      refine GL.nil ?_
      refine GC.seq ?_
      refine GC.region ?_
      refine GL.val trivial rfl (OV.move (v := pv p_r) rfl) ?_
      refine GL.val trivial rfl (OV.move (v := .int .i64 x5.2) rfl) ?_
      refine GL.val trivial rfl (OV.ibin (v := .bool (decide ((x5.2 : Int) > 0))) rfl rfl rfl) ?_
      refine GL.val trivial rfl (OV.move (v := .bool (decide ((x5.2 : Int) > 0))) rfl) ?_
      refine GL.cut0 3 [(32, .bool ((decide ((x5.2 : Int) > 0)) || ((r9 : Int) != 0))), (0, pv p_r), (7, .int .u64 x5.1), (9, .int .u8 r9), (20, .int .i64 p_k), (21, .int .i64 x5.2), (26, pv p_r)] ?_ ?_
      · rcases Bool.eq_false_or_eq_true (decide ((x5.2 : Int) > 0)) with hc11 | hc11
        · skip
          refine GL.skip ⟨_, rfl, .inl ⟨_, rfl, hc11⟩⟩ rfl ?_
          refine GL.skip ⟨_, rfl, .inl ⟨_, rfl, hc11⟩⟩ rfl ?_
          refine GL.val trivial rfl (OV.pickT (b := decide ((x5.2 : Int) > 0)) (v := .bool true) rfl hc11 rfl) ?_
          exact GL.jump0 (fun _ _ h => h) () rfl ⟨(by rw [hc11]; rfl), rfl, rfl, rfl, rfl, rfl, rfl, trivial⟩
        · skip
          refine GL.val ⟨_, _, rfl, rfl, hc11⟩ rfl (OV.move (v := .int .u8 r9) rfl) ?_
          refine GL.val ⟨_, _, rfl, rfl, hc11⟩ rfl (OV.ibin (v := .bool ((r9 : Int) != 0)) rfl rfl rfl) ?_
          refine GL.val trivial rfl (OV.pickF (b := decide ((x5.2 : Int) > 0)) (v := .bool ((r9 : Int) != 0)) rfl hc11 rfl) ?_
          exact GL.jump0 (fun _ _ h => h) () rfl ⟨(by rw [hc11]; rfl), rfl, rfl, rfl, rfl, rfl, rfl, trivial⟩
      refine GL.call h trivial rfl ok_code_Reader_ask (vs := [pv p_r, .bool ((decide ((x5.2 : Int) > 0)) || ((r9 : Int) != 0))]) rfl ?_
      rintro _ H13 ⟨r12, rfl, h⟩
      refine GL.nil ?_
      refine GC.region ?_
      refine GL.val trivial rfl (OV.move (v := .int .u64 x5.1) rfl) ?_
      refine GL.val trivial rfl (OV.shl rfl rfl (by decide)) ?_
      refine GL.val trivial rfl (OV.move (v := .int .u8 r9) rfl) ?_
      refine GL.val trivial rfl (OV.convInt rfl rfl rfl) ?_
      refine GL.val trivial rfl (OV.ibin (v := .int .u64 (bOr .u64 (sShl .u64 x5.1 8) (w .u64 r9))) rfl rfl rfl) ?_
      refine GL.val trivial rfl (OV.assign (v := .int .u64 (bOr .u64 (sShl .u64 x5.1 8) (w .u64 r9))) rfl) ?_
      refine GL.nil_to (fun _ _ h => h) ?_
      refine GC.region ?_
      refine GL.val trivial rfl (OV.ibin (v := .int .i64 (w .i64 (x5.2 + 1))) rfl rfl rfl) ?_
      refine GL.val trivial rfl (OV.move (v := .int .i64 (w .i64 (x5.2 + 1))) rfl) ?_
      exact GL.jump (fun _ _ h => h) ((bOr .u64 (sShl .u64 x5.1 8) (w .u64 r9)), (w .i64 (x5.2 + 1))) h ⟨rfl, rfl, rfl, rfl, trivial⟩
    · replace h := And.right h hc8
      refine GC.exit_to (fun _ _ h => h) ?_
      refine GC.seq ?_
      refine GC.region ?_
      refine GL.val trivial rfl (OV.move (v := .int .u64 x5.1) rfl) ?_
      refine GL.val trivial rfl (OV.assign (v := .int .u64 x5.1) rfl) ?_
      refine GL.nil ?_
      exact GC.ret (fun _ _ hf hs => post_tmp1 rfl rfl hf hs ⟨x5.1, rfl, h⟩)

def sh_code_Reader_ask (C : Ctx) (p_r : Option (Nat × Nat)) (p_ok : Bool) (K : Bool → Heap → Prop) (H : Heap) : Prop :=
  jn (α := Unit) (fun x2 H3 =>
 nck p_r fun p12 =>
 ldB H3 (p12.1, p12.2 + 2) fun x14 =>
 K (!x14) H3)
 (fun J1 => ift (!p_ok)
 (nck p_r fun p6 =>
 st (p6.1, p6.2 + 0) (slv Sl.nil) (fun H8 =>
 nck p_r fun p9 =>
 st (p9.1, p9.2 + 2) (.bool true) (fun H11 =>
 J1 () H11) H8) H)
 (J1 () H))

theorem ad_code_Reader_ask (C : Ctx) (p_r : Option (Nat × Nat)) (p_ok : Bool) (K : Bool → Heap → Prop) (H : Heap) (h : sh_code_Reader_ask C p_r p_ok K H) : c_code_Reader_ask C p_r p_ok K H := by
  refine Spec.enter Tryd.func65 rfl Tryd.ntmps65 rfl ?_
  refine GC.sub [(0, pv p_r), (1, .bool p_ok)] ⟨rfl, rfl, trivial⟩ ?_
  refine GC.seq ?_
  refine GC.region ?_
  refine GL.val trivial rfl (OV.assign (v := .bool false) rfl) ?_
  refine GL.nil ?_
  obtain ⟨J1, h, hR4⟩ := h
  refine GC.join (α := Unit) J1 (fun _ => [(0, pv p_r)]) ?_ ?_
  · skip
    refine GC.seq ?_
    refine GC.region ?_
    refine GL.val trivial rfl (OV.move (v := .bool p_ok) rfl) ?_
    refine GL.val trivial rfl (OV.not rfl) ?_
    refine GL.nil ?_
    refine GC.cond (b := !p_ok) rfl (fun hc5 => ?_) (fun hc5 => ?_)
    · replace h := And.left h hc5
      refine GC.region ?_
      refine GL.val trivial rfl (OV.move (v := pv p_r) rfl) ?_
      refine GL.val trivial rfl (OV.move (v := pv p_r) rfl) ?_
      obtain ⟨p6, hp7, h⟩ := h
      refine GL.val trivial rfl (OV.nilCheck (q := p_r) rfl hp7) ?_
      refine GL.val trivial rfl (OV.fieldAddr (p := p6) rfl rfl) ?_
      refine GL.store (p := (p6.1, p6.2 + 0)) (v := slv Sl.nil) h trivial rfl rfl rfl rfl ?_
      intro H8 h
      obtain ⟨p9, hp10, h⟩ := h
      refine GL.val trivial rfl (OV.nilCheck (q := p_r) rfl hp10) ?_
      refine GL.val trivial rfl (OV.fieldAddr (p := p9) rfl rfl) ?_
      refine GL.store (p := (p9.1, p9.2 + 2)) (v := .bool true) h trivial rfl rfl rfl rfl ?_
      intro H11 h
      exact GL.jump (fun _ _ h => h) () h ⟨rfl, trivial⟩
    · replace h := And.right h hc5
      exact GC.jump (fun _ _ h => h) () h ⟨rfl, trivial⟩
  · intro x2 H3 h
    replace h := hR4 x2 H3 h
    refine GC.seq ?_
    refine GC.region ?_
    refine GL.val trivial rfl (OV.move (v := pv p_r) rfl) ?_
    obtain ⟨p12, hp13, h⟩ := h
    refine GL.val trivial rfl (OV.nilCheck (q := p_r) rfl hp13) ?_
    refine GL.val trivial rfl (OV.fieldAddr (p := p12) rfl rfl) ?_
    obtain ⟨x14, hr15, h⟩ := h
    refine GL.val trivial rfl (OV.load (p := (p12.1, p12.2 + 2)) rfl rfl hr15) ?_
    refine GL.val trivial rfl (OV.not rfl) ?_
    refine GL.val trivial rfl (OV.assign (v := .bool (!x14)) rfl) ?_
    refine GL.nil ?_
    exact GC.ret (fun _ _ hf hs => post_tmp1 rfl rfl hf hs ⟨(!x14), rfl, h⟩)

def sh_ref02_SameRow (C : Ctx) (p_a : Sl) (p_b : Sl) (K : Bool → Heap → Prop) (H : Heap) : Prop :=
  ift (((Sl.len p_a : Int) : Int) != (Sl.len p_b : Int))
 (K false H)
 (lp (α := Int) 0 H (fun x2 J3 H4 =>
 ift (decide ((x2 : Int) < (Sl.len p_a : Int)))
 (dr H4 fun Hs6 =>
 ixa p_a x2 fun p8 =>
 ldT Hs6 T_api_Value.c (p8.1, p8.2 + (x2 : Int).toNat * 4) fun x13 =>
 ixa p_b x2 fun p15 =>
 ldT Hs6 T_api_Value.c (p15.1, p15.2 + (x2 : Int).toNat * 4) fun x20 =>
 c_ref02_Same C x13 x20 (fun r23 H24 =>
 Heap.le Hs6 H24 ∧
 ift (!r23)
 (K false H24)
 (J3 (w .i64 (x2 + 1)) H24)) H4)
 (K true H4)))

theorem ad_ref02_SameRow (C : Ctx) (p_a : Sl) (p_b : Sl) (K : Bool → Heap → Prop) (H : Heap) (h : sh_ref02_SameRow C p_a p_b K H) : c_ref02_SameRow C p_a p_b K H := by
  refine Spec.enter Tryd.func66 rfl Tryd.ntmps66 rfl ?_
  refine GC.sub [(0, slv p_a), (1, slv p_b)] ⟨rfl, rfl, trivial⟩ ?_
  refine GC.seq ?_
  refine GC.region ?_
  refine GL.val trivial rfl (OV.assign (v := .bool false) rfl) ?_
  refine GL.nil ?_
  refine GC.seq ?_
  refine GC.seq ?_
  refine GC.region ?_
  refine GL.val trivial rfl (OV.move (v := slv p_a) rfl) ?_
  refine GL.val trivial rfl (OV.lenSl (s := p_a) rfl rfl) ?_
  refine GL.val trivial rfl (OV.move (v := slv p_b) rfl) ?_
  refine GL.val trivial rfl (OV.lenSl (s := p_b) rfl rfl) ?_
  refine GL.val trivial rfl (OV.ibin (v := .bool (((Sl.len p_a : Int) : Int) != (Sl.len p_b : Int))) rfl rfl rfl) ?_
  refine GL.nil ?_
  refine GC.cond (b := ((Sl.len p_a : Int) : Int) != (Sl.len p_b : Int)) rfl (fun hc1 => ?_) (fun hc1 => ?_)
  · replace h := And.left h hc1
    refine GC.seq ?_
    refine GC.region ?_
    refine GL.val trivial rfl (OV.assign (v := .bool false) rfl) ?_
    refine GL.nil ?_
    exact GC.ret (fun _ _ hf hs => post_tmp1 rfl rfl hf hs ⟨false, rfl, h⟩)
  · replace h := And.right h hc1
    refine GC.skip ?_
    refine GC.seq ?_
    refine GC.seq ?_
    refine GC.region ?_
    refine GL.val trivial rfl (OV.assign (v := .int .i64 0) rfl) ?_
    refine GL.nil ?_
    refine GC.block ?_
    refine GC.loop (α := Int) h (fun x2 => [(5, .int .i64 x2), (0, slv p_a), (1, slv p_b)]) ⟨rfl, rfl, rfl, trivial⟩ ?_
    intro x2 H4 J3 h
    refine GC.seq ?_
    refine GC.seq ?_
    refine GC.region ?_
    refine GL.val trivial rfl (OV.move (v := .int .i64 x2) rfl) ?_
    refine GL.val trivial rfl (OV.move (v := slv p_a) rfl) ?_
    refine GL.val trivial rfl (OV.lenSl (s := p_a) rfl rfl) ?_
    refine GL.val trivial rfl (OV.ibin (v := .bool (decide ((x2 : Int) < (Sl.len p_a : Int)))) rfl rfl rfl) ?_
    refine GL.nil ?_
    refine GC.cond (b := decide ((x2 : Int) < (Sl.len p_a : Int))) rfl (fun hc5 => ?_) (fun hc5 => ?_)
    · replace h := And.left h hc5
      refine GC.skip ?_
      refine GC.seq ?_
      refine GC.block ?_
      refine GC.seq ?_
      obtain ⟨Hs6, hle7, h⟩ := h
      refine GC.any (Hs := Hs6) (by kernel_rfl) hle7 ?_
      refine GA.take 0 rfl (by kernel_rfl) (by kernel_rfl) (by kernel_rfl) (fun _ _ _ h => by obtain ⟨_, _, _, h, _⟩ := h; cases h) trivial rfl (OV.move (v := slv p_a) rfl) ?_
      refine GA.take 1 rfl (by kernel_rfl) (by kernel_rfl) (by kernel_rfl) (fun _ _ _ h => by obtain ⟨_, _, _, h, _⟩ := h; cases h) trivial rfl (OV.move (v := .int .i64 x2) rfl) ?_
      obtain ⟨p8, ha9, hb10, hc11, hd12, h⟩ := h
      refine GA.take 2 rfl (by kernel_rfl) (by kernel_rfl) (by kernel_rfl) (fun _ _ _ h => by obtain ⟨_, _, _, h, _⟩ := h; cases h) trivial rfl (OV.indexAddr (s := p_a) rfl rfl rfl rfl ha9 hb10 hc11 hd12) ?_
      obtain ⟨x13, hr14, h⟩ := h
      refine GA.take 3 rfl (by kernel_rfl) (by kernel_rfl) (by kernel_rfl) (fun _ _ _ h => by obtain ⟨_, _, _, h, _⟩ := h; cases h) trivial rfl (OV.loadT (p := (p8.1, p8.2 + (x2 : Int).toNat * 4)) (cs := T_api_Value.c x13) rfl rfl rfl hr14) ?_
      refine GA.take 4 rfl (by kernel_rfl) (by kernel_rfl) (by kernel_rfl) (fun _ _ _ h => by obtain ⟨_, _, _, h, _⟩ := h; cases h) trivial rfl (OV.move (v := slv p_b) rfl) ?_
      refine GA.take 5 rfl (by kernel_rfl) (by kernel_rfl) (by kernel_rfl) (fun _ _ _ h => by obtain ⟨_, _, _, h, _⟩ := h; cases h) trivial rfl (OV.move (v := .int .i64 x2) rfl) ?_
      obtain ⟨p15, ha16, hb17, hc18, hd19, h⟩ := h
      refine GA.take 6 rfl (by kernel_rfl) (by kernel_rfl) (by kernel_rfl) (fun _ _ _ h => by obtain ⟨_, _, _, h, _⟩ := h; cases h) trivial rfl (OV.indexAddr (s := p_b) rfl rfl rfl rfl ha16 hb17 hc18 hd19) ?_
      obtain ⟨x20, hr21, h⟩ := h
      refine GA.take 7 rfl (by kernel_rfl) (by kernel_rfl) (by kernel_rfl) (fun _ _ _ h => by obtain ⟨_, _, _, h, _⟩ := h; cases h) trivial rfl (OV.loadT (p := (p15.1, p15.2 + (x2 : Int).toNat * 4)) (cs := T_api_Value.c x20) rfl rfl rfl hr21) ?_
      refine GA.eff 8 rfl (by kernel_rfl) ?_
      refine GL.call h trivial rfl ok_ref02_Same (vs := [.agg (T_api_Value.c x13).toArray, .agg (T_api_Value.c x20).toArray]) rfl ?_
      rintro _ H24 ⟨r23, rfl, h⟩
      obtain ⟨hle22, h⟩ := h
      refine GA.back hle22 ?_
      refine GA.take 9 rfl (by kernel_rfl) (by kernel_rfl) (by kernel_rfl) (fun _ _ _ h => by obtain ⟨_, _, _, h, _⟩ := h; cases h) trivial rfl (OV.not rfl) ?_
      refine GA.done (by kernel_rfl) ?_
      refine GL.nil ?_
      refine GC.cond (b := !r23) rfl (fun hc25 => ?_) (fun hc25 => ?_)
      · replace h := And.left h hc25
        refine GC.seq ?_
        refine GC.region ?_
        refine GL.val trivial rfl (OV.assign (v := .bool false) rfl) ?_
        refine GL.nil ?_
        exact GC.ret (fun _ _ hf hs => post_tmp1 rfl rfl hf hs ⟨false, rfl, h⟩)
      · replace h := And.right h hc25
        refine GC.skip_to (fun _ _ h => h) ?_
        refine GC.region ?_
        refine GL.val trivial rfl (OV.move (v := .int .i64 x2) rfl) ?_
        refine GL.val trivial rfl (OV.ibin (v := .int .i64 (w .i64 (x2 + 1))) rfl rfl rfl) ?_
        refine GL.val trivial rfl (OV.assign (v := .int .i64 (w .i64 (x2 + 1))) rfl) ?_
        exact GL.jump (fun _ _ h => h) (w .i64 (x2 + 1)) h ⟨rfl, rfl, rfl, trivial⟩
    · replace h := And.right h hc5
      refine GC.exit_to (fun _ _ h => h) ?_
      refine GC.seq ?_
      refine GC.region ?_
      refine GL.val trivial rfl (OV.assign (v := .bool true) rfl) ?_
      refine GL.nil ?_
      exact GC.ret (fun _ _ hf hs => post_tmp1 rfl rfl hf hs ⟨true, rfl, h⟩)

def sh_code_Reader_value (C : Ctx) (p_r : Option (Nat × Nat)) (p_deep : Int) (K : T_api_Value → Heap → Prop) (H : Heap) : Prop :=
  nw (T_api_Value.c T_api_Value.zero) (fun b1 H2 =>
 nw ((List.replicate 7 (.nilFunc : Value))) (fun b3 H4 =>
 stC 7 (b3, 0) [.nilFunc, .func (.func 85) (List.toArray []) (List.toArray []), .func (.func 86) (List.toArray []) (List.toArray []), .func (.func 87) (List.toArray []) (List.toArray []), .func (.func 88) (List.toArray []) (List.toArray []), .func (.func 89) (List.toArray []) (List.toArray []), .func (.func 90) (List.toArray []) (List.toArray [])] (fun H5 =>
 c_code_Reader_next C p_r (fun r8 H9 =>
 nw (T_api_Value.c T_api_Value.zero) (fun b10 H11 =>
 stT (b10, 0) (T_api_Value.c (⟨r8, 0, [], Sl.nil⟩ : T_api_Value)) (fun H12 =>
 jn (α := Unit) (fun x14 H15 =>
 ldT H15 T_api_Value.c (b10, 0) fun x41 =>
 stT (b1, 0) (T_api_Value.c x41) (fun H43 =>
 ldT H43 T_api_Value.c (b1, 0) fun x44 =>
 K x44 H43) H15)
 (fun J13 => jn (α := Bool) (fun b17 H23 =>
 jn (α := Bool) (fun b24 H30 =>
 c_code_Reader_ask C p_r b24 (fun r31 H32 =>
 ift r31
 (ldI H32 .u8 ((b10, 0).1, (b10, 0).2 + 0) fun x34 =>
 ixr (b3, 0) 7 x34 <|
 ldV H32 ((b3, 0).1, (b3, 0).2 + (x34 : Int).toNat * 1) fun x38 =>
 callU Tryd.prog C x38 [pv p_r, pv (some (b10, 0)), .int .i64 p_deep] H32 (fun v H40 => v = .tuple #[] ∧
 J13 () H40))
 (J13 () H32)) H30)
 (fun J25 => ift b17
 (ldI H23 .u8 ((b10, 0).1, (b10, 0).2 + 0) fun x28 =>
 J25 (decide ((x28 : Int) ≤ 6)) H23)
 (J25 false H23)))
 (fun J18 => ift (decide ((p_deep : Int) ≤ 64))
 (ldI H12 .u8 ((b10, 0).1, (b10, 0).2 + 0) fun x21 =>
 J18 (decide ((x21 : Int) ≥ 1)) H12)
 (J18 false H12)))) H11) H9) H5) H4) H2) H

theorem ad_code_Reader_value (C : Ctx) (p_r : Option (Nat × Nat)) (p_deep : Int) (K : T_api_Value → Heap → Prop) (H : Heap) (h : sh_code_Reader_value C p_r p_deep K H) : c_code_Reader_value C p_r p_deep K H := by
  refine Spec.enter Tryd.func67 rfl Tryd.ntmps67 rfl ?_
  refine GC.sub [(0, pv p_r), (1, .int .i64 p_deep)] ⟨rfl, rfl, trivial⟩ ?_
  refine GC.seq ?_
  refine GC.region ?_
  refine GL.alloc (cs := T_api_Value.c T_api_Value.zero) h trivial rfl rfl rfl ?_
  intro b1 H2 h
  refine GL.nil ?_
  refine GC.seq ?_
  refine GC.region ?_
  refine GL.val trivial rfl (OV.build (vs := [(1, .func (.func 85) (List.toArray []) (List.toArray [])), (2, .func (.func 86) (List.toArray []) (List.toArray [])), (3, .func (.func 87) (List.toArray []) (List.toArray [])), (4, .func (.func 88) (List.toArray []) (List.toArray [])), (5, .func (.func 89) (List.toArray []) (List.toArray [])), (6, .func (.func 90) (List.toArray []) (List.toArray []))]) (v := .agg (List.toArray [.nilFunc, .func (.func 85) (List.toArray []) (List.toArray []), .func (.func 86) (List.toArray []) (List.toArray []), .func (.func 87) (List.toArray []) (List.toArray []), .func (.func 88) (List.toArray []) (List.toArray []), .func (.func 89) (List.toArray []) (List.toArray []), .func (.func 90) (List.toArray []) (List.toArray [])])) rfl (fun _ => by kernel_rfl)) ?_
  refine GL.alloc (cs := (List.replicate 7 (.nilFunc : Value))) h trivial rfl rfl rfl ?_
  intro b3 H4 h
  obtain ⟨hl6, h17, h⟩ := h
  refine GL.storeT (p := (b3, 0)) (vs := [.nilFunc, .func (.func 85) (List.toArray []) (List.toArray []), .func (.func 86) (List.toArray []) (List.toArray []), .func (.func 87) (List.toArray []) (List.toArray []), .func (.func 88) (List.toArray []) (List.toArray []), .func (.func 89) (List.toArray []) (List.toArray []), .func (.func 90) (List.toArray []) (List.toArray [])]) h trivial rfl rfl h17 (by rw [hl6]; rfl) ?_
  intro H5 h
  refine GL.nil ?_
  refine GC.seq ?_
  refine GC.region ?_
  refine GL.val trivial rfl (OV.move (v := pv p_r) rfl) ?_
  refine GL.call h trivial rfl ok_code_Reader_next (vs := [pv p_r]) rfl ?_
  rintro _ H9 ⟨r8, rfl, h⟩
  refine GL.val trivial rfl (OV.build (vs := [(0, .int .u8 r8)]) (v := .agg (T_api_Value.c (⟨r8, 0, [], Sl.nil⟩ : T_api_Value)).toArray) rfl (fun _ => by kernel_rfl)) ?_
  refine GL.alloc (cs := T_api_Value.c T_api_Value.zero) h trivial rfl rfl rfl ?_
  intro b10 H11 h
  refine GL.storeT (p := (b10, 0)) (vs := T_api_Value.c (⟨r8, 0, [], Sl.nil⟩ : T_api_Value)) h trivial rfl rfl rfl rfl ?_
  intro H12 h
  refine GL.nil ?_
  obtain ⟨J13, h, hR16⟩ := h
  refine GC.join (α := Unit) J13 (fun _ => [(4, pv (some (b1, 0))), (6, pv (some (b10, 0)))]) ?_ ?_
  · skip
    refine GC.seq ?_
    refine GC.region ?_
    refine GL.val trivial rfl (OV.move (v := pv p_r) rfl) ?_
    refine GL.val trivial rfl (OV.move (v := .int .i64 p_deep) rfl) ?_
    refine GL.val trivial rfl (OV.ibin (v := .bool (decide ((p_deep : Int) ≤ 64))) rfl rfl rfl) ?_
    refine GL.val trivial rfl (OV.move (v := .bool (decide ((p_deep : Int) ≤ 64))) rfl) ?_
    obtain ⟨J18, h, hR19⟩ := h
    refine GL.cut (α := Bool) 4 J18 (fun b17 => [(18, .bool b17), (0, pv p_r), (1, .int .i64 p_deep), (4, pv (some (b1, 0))), (5, pv (some (b3, 0))), (6, pv (some (b10, 0))), (11, pv p_r)]) ?_ ?_
    · rcases Bool.eq_false_or_eq_true (decide ((p_deep : Int) ≤ 64)) with hc20 | hc20
      · skip
        replace h := And.left h hc20
        refine GL.val ⟨_, _, rfl, rfl, hc20⟩ rfl (OV.fieldAddr (p := (b10, 0)) rfl rfl) ?_
        obtain ⟨x21, hr22, h⟩ := h
        refine GL.val ⟨_, _, rfl, rfl, hc20⟩ rfl (OV.load (p := ((b10, 0).1, (b10, 0).2 + 0)) rfl rfl hr22) ?_
        refine GL.val ⟨_, _, rfl, rfl, hc20⟩ rfl (OV.ibin (v := .bool (decide ((x21 : Int) ≥ 1))) rfl rfl rfl) ?_
        refine GL.val trivial rfl (OV.pickT (b := decide ((p_deep : Int) ≤ 64)) (v := .bool (decide ((x21 : Int) ≥ 1))) rfl hc20 rfl) ?_
        exact GL.jump (fun _ _ h => h) (decide ((x21 : Int) ≥ 1)) h ⟨rfl, rfl, rfl, rfl, rfl, rfl, rfl, trivial⟩
      · skip
        replace h := And.right h hc20
        refine GL.skip ⟨_, rfl, .inl ⟨_, rfl, hc20⟩⟩ rfl ?_
        refine GL.skip ⟨_, rfl, .inl ⟨_, rfl, hc20⟩⟩ rfl ?_
        refine GL.skip ⟨_, rfl, .inl ⟨_, rfl, hc20⟩⟩ rfl ?_
        refine GL.val trivial rfl (OV.pickF (b := decide ((p_deep : Int) ≤ 64)) (v := .bool false) rfl hc20 rfl) ?_
        exact GL.jump (fun _ _ h => h) false h ⟨rfl, rfl, rfl, rfl, rfl, rfl, rfl, trivial⟩
    intro b17 H23 h
    replace h := hR19 b17 H23 h
    refine GL.val trivial rfl (OV.move (v := .bool b17) rfl) ?_
    obtain ⟨J25, h, hR26⟩ := h
    refine GL.cut (α := Bool) 4 J25 (fun b24 => [(23, .bool b24), (0, pv p_r), (1, .int .i64 p_deep), (4, pv (some (b1, 0))), (5, pv (some (b3, 0))), (6, pv (some (b10, 0))), (11, pv p_r)]) ?_ ?_
    · rcases Bool.eq_false_or_eq_true b17 with hc27 | hc27
      · skip
        replace h := And.left h hc27
        refine GL.val ⟨_, _, rfl, rfl, hc27⟩ rfl (OV.fieldAddr (p := (b10, 0)) rfl rfl) ?_
        obtain ⟨x28, hr29, h⟩ := h
        refine GL.val ⟨_, _, rfl, rfl, hc27⟩ rfl (OV.load (p := ((b10, 0).1, (b10, 0).2 + 0)) rfl rfl hr29) ?_
        refine GL.val ⟨_, _, rfl, rfl, hc27⟩ rfl (OV.ibin (v := .bool (decide ((x28 : Int) ≤ 6))) rfl rfl rfl) ?_
        refine GL.val trivial rfl (OV.pickT (b := b17) (v := .bool (decide ((x28 : Int) ≤ 6))) rfl hc27 rfl) ?_
        exact GL.jump (fun _ _ h => h) (decide ((x28 : Int) ≤ 6)) h ⟨rfl, rfl, rfl, rfl, rfl, rfl, rfl, trivial⟩
      · skip
        replace h := And.right h hc27
        refine GL.skip ⟨_, rfl, .inl ⟨_, rfl, hc27⟩⟩ rfl ?_
        refine GL.skip ⟨_, rfl, .inl ⟨_, rfl, hc27⟩⟩ rfl ?_
        refine GL.skip ⟨_, rfl, .inl ⟨_, rfl, hc27⟩⟩ rfl ?_
        refine GL.val trivial rfl (OV.pickF (b := b17) (v := .bool false) rfl hc27 rfl) ?_
        exact GL.jump (fun _ _ h => h) false h ⟨rfl, rfl, rfl, rfl, rfl, rfl, rfl, trivial⟩
    intro b24 H30 h
    replace h := hR26 b24 H30 h
    refine GL.call h trivial rfl ok_code_Reader_ask (vs := [pv p_r, .bool b24]) rfl ?_
    rintro _ H32 ⟨r31, rfl, h⟩
    refine GL.nil ?_
    refine GC.cond (b := r31) rfl (fun hc33 => ?_) (fun hc33 => ?_)
    · replace h := And.left h hc33
      refine GC.region ?_
      refine GL.val trivial rfl (OV.fieldAddr (p := (b10, 0)) rfl rfl) ?_
      obtain ⟨x34, hr35, h⟩ := h
      refine GL.val trivial rfl (OV.load (p := ((b10, 0).1, (b10, 0).2 + 0)) rfl rfl hr35) ?_
      obtain ⟨ha36, hb37, h⟩ := h
      refine GL.val trivial rfl (OV.indexAddrA (p := (b3, 0)) rfl rfl rfl rfl ha36 hb37) ?_
      obtain ⟨x38, hr39, h⟩ := h
      refine GL.val trivial rfl (OV.load (p := ((b3, 0).1, (b3, 0).2 + (x34 : Int).toNat * 1)) rfl rfl hr39) ?_
      refine GL.val trivial rfl (OV.move (v := pv p_r) rfl) ?_
      refine GL.val trivial rfl (OV.move (v := .int .i64 p_deep) rfl) ?_
      refine GL.callU (xv := x38) (vs := [pv p_r, pv (some (b10, 0)), .int .i64 p_deep]) h trivial rfl rfl rfl ?_
      rintro _ H40 ⟨rfl, h⟩
      exact GL.jump (fun _ _ h => h) () h ⟨rfl, rfl, trivial⟩
    · replace h := And.right h hc33
      exact GC.jump (fun _ _ h => h) () h ⟨rfl, rfl, trivial⟩
  · intro x14 H15 h
    replace h := hR16 x14 H15 h
    refine GC.seq ?_
    refine GC.region ?_
    obtain ⟨x41, hr42, h⟩ := h
    refine GL.val trivial rfl (OV.loadT (p := (b10, 0)) (cs := T_api_Value.c x41) rfl rfl rfl hr42) ?_
    refine GL.storeT (p := (b1, 0)) (vs := T_api_Value.c x41) h trivial rfl rfl rfl rfl ?_
    intro H43 h
    refine GL.nil ?_
    obtain ⟨x44, hr45, h⟩ := h
    exact GC.ret (fun _ _ hf hs => post_res1 rfl (RV.cellT (p := (b1, 0)) (cs := T_api_Value.c x44) rfl rfl rfl hr45) hf hs ⟨x44, rfl, h⟩)

def sh_code_pen_flip (C : Ctx) (p_p : Option (Nat × Nat)) (p_is : Bool) (K : Heap → Prop) (H : Heap) : Prop :=
  ift p_is
 (nck p_p fun p2 =>
 ldI H .u8 (p2.1, p2.2 + 1) fun x4 =>
 nck p_p fun p6 =>
 st (p6.1, p6.2 + 1) (.int .u8 (bXor .u8 x4 255)) (fun H8 =>
 K H8) H)
 (K H)

theorem ad_code_pen_flip (C : Ctx) (p_p : Option (Nat × Nat)) (p_is : Bool) (K : Heap → Prop) (H : Heap) (h : sh_code_pen_flip C p_p p_is K H) : c_code_pen_flip C p_p p_is K H := by
  refine Spec.enter Tryd.func68 rfl Tryd.ntmps68 rfl ?_
  refine GC.sub [(0, pv p_p), (1, .bool p_is)] ⟨rfl, rfl, trivial⟩ ?_
  refine GC.seq ?_
  refine GC.region ?_
  refine GL.val trivial rfl (OV.move (v := .bool p_is) rfl) ?_
  refine GL.nil ?_
  refine GC.cond (b := p_is) rfl (fun hc1 => ?_) (fun hc1 => ?_)
  · replace h := And.left h hc1
    refine GC.region ?_
    refine GL.val trivial rfl (OV.move (v := pv p_p) rfl) ?_
    obtain ⟨p2, hp3, h⟩ := h
    refine GL.val trivial rfl (OV.nilCheck (q := p_p) rfl hp3) ?_
    refine GL.val trivial rfl (OV.fieldAddr (p := p2) rfl rfl) ?_
    obtain ⟨x4, hr5, h⟩ := h
    refine GL.val trivial rfl (OV.load (p := (p2.1, p2.2 + 1)) rfl rfl hr5) ?_
    refine GL.val trivial rfl (OV.ibin (v := .int .u8 (bXor .u8 x4 255)) rfl rfl rfl) ?_
    obtain ⟨p6, hp7, h⟩ := h
    refine GL.val trivial rfl (OV.nilCheck (q := p_p) rfl hp7) ?_
    refine GL.val trivial rfl (OV.fieldAddr (p := p6) rfl rfl) ?_
    refine GL.store (p := (p6.1, p6.2 + 1)) (v := .int .u8 (bXor .u8 x4 255)) h trivial rfl rfl rfl rfl ?_
    intro H8 h
    exact GL.ends (fun _ _ hf hs => post_tmp0 rfl hf hs ⟨rfl, h⟩)
  · replace h := And.right h hc1
    exact GC.ends (fun _ _ hf hs => post_tmp0 rfl hf hs ⟨rfl, h⟩)

end Sx
