/-
  Made by program (wip/gen/gen.py): the shallow forms of the functions, and that each implies its contract.
-/
import Derived.Test.YtlpjpjbgfffffaaDoorSh2
set_option linter.unusedVariables false
set_option maxRecDepth 100000
namespace Sx
open Go Go.Proofs
def sh_math_bits_Len64 (C : Ctx) (p_x : Int) (K : Int → Heap → Prop) (H : Heap) : Prop :=
  jn (α := Int × Int) (fun x2 H3 =>
 jn (α := Int × Int) (fun x7 H8 =>
 jn (α := Int × Int) (fun x12 H13 =>
 ixs [0, 1, 2, 2, 3, 3, 3, 3, 4, 4, 4, 4, 4, 4, 4, 4, 5, 5, 5, 5, 5, 5, 5, 5, 5, 5, 5, 5, 5, 5, 5, 5, 6, 6, 6, 6, 6, 6, 6, 6, 6, 6, 6, 6, 6, 6, 6, 6, 6, 6, 6, 6, 6, 6, 6, 6, 6, 6, 6, 6, 6, 6, 6, 6, 7, 7, 7, 7, 7, 7, 7, 7, 7, 7, 7, 7, 7, 7, 7, 7, 7, 7, 7, 7, 7, 7, 7, 7, 7, 7, 7, 7, 7, 7, 7, 7, 7, 7, 7, 7, 7, 7, 7, 7, 7, 7, 7, 7, 7, 7, 7, 7, 7, 7, 7, 7, 7, 7, 7, 7, 7, 7, 7, 7, 7, 7, 7, 7, 8, 8, 8, 8, 8, 8, 8, 8, 8, 8, 8, 8, 8, 8, 8, 8, 8, 8, 8, 8, 8, 8, 8, 8, 8, 8, 8, 8, 8, 8, 8, 8, 8, 8, 8, 8, 8, 8, 8, 8, 8, 8, 8, 8, 8, 8, 8, 8, 8, 8, 8, 8, 8, 8, 8, 8, 8, 8, 8, 8, 8, 8, 8, 8, 8, 8, 8, 8, 8, 8, 8, 8, 8, 8, 8, 8, 8, 8, 8, 8, 8, 8, 8, 8, 8, 8, 8, 8, 8, 8, 8, 8, 8, 8, 8, 8, 8, 8, 8, 8, 8, 8, 8, 8, 8, 8, 8, 8, 8, 8, 8, 8, 8, 8, 8, 8, 8, 8, 8, 8, 8, 8, 8, 8, 8, 8, 8, 8] (w .u8 x12.1) fun c16 =>
 K (w .i64 (x12.2 + (w .i64 (c16.toNat : Int)))) H13)
 (fun J11 => ift (decide ((x7.1 : Int) ≥ 256))
 (J11 ((sShr .u64 x7.1 8), (w .i64 (x7.2 + 8))) H8)
 (J11 (x7.1, x7.2) H8)))
 (fun J6 => ift (decide ((x2.1 : Int) ≥ 65536))
 (J6 ((sShr .u64 x2.1 16), (w .i64 (x2.2 + 16))) H3)
 (J6 (x2.1, x2.2) H3)))
 (fun J1 => ift (decide ((p_x : Int) ≥ 4294967296))
 (J1 ((sShr .u64 p_x 32), 32) H)
 (J1 (p_x, 0) H))

theorem ad_math_bits_Len64 (C : Ctx) (p_x : Int) (K : Int → Heap → Prop) (H : Heap) (h : sh_math_bits_Len64 C p_x K H) : c_math_bits_Len64 C p_x K H := by
  refine Spec.enter Tryd.func69 rfl Tryd.ntmps69 rfl ?_
  refine GC.sub [(0, .int .u64 p_x)] ⟨rfl, trivial⟩ ?_
  refine GC.seq ?_
  refine GC.region ?_
  refine GL.val trivial rfl (OV.assign (v := .int .i64 0) rfl) ?_
  refine GL.nil ?_
  obtain ⟨J1, h, hR4⟩ := h
  refine GC.join (α := Int × Int) J1 (fun x2 => [(0, .int .u64 x2.1), (2, .int .i64 x2.2)]) ?_ ?_
  · skip
    refine GC.seq ?_
    refine GC.region ?_
    refine GL.val trivial rfl (OV.move (v := .int .u64 p_x) rfl) ?_
    refine GL.val trivial rfl (OV.ibin (v := .bool (decide ((p_x : Int) ≥ 4294967296))) rfl rfl rfl) ?_
    refine GL.nil ?_
    refine GC.cond (b := decide ((p_x : Int) ≥ 4294967296)) rfl (fun hc5 => ?_) (fun hc5 => ?_)
    · replace h := And.left h hc5
      refine GC.seq ?_
      refine GC.region ?_
      refine GL.val trivial rfl (OV.move (v := .int .u64 p_x) rfl) ?_
      refine GL.val trivial rfl (OV.shr rfl rfl (by decide)) ?_
      refine GL.val trivial rfl (OV.assign (v := .int .u64 (sShr .u64 p_x 32)) rfl) ?_
      refine GL.nil ?_
      refine GC.region ?_
      refine GL.val trivial rfl (OV.assign (v := .int .i64 32) rfl) ?_
      exact GL.jump (fun _ _ h => h) ((sShr .u64 p_x 32), 32) h ⟨rfl, rfl, trivial⟩
    · replace h := And.right h hc5
      exact GC.jump (fun _ _ h => h) (p_x, 0) h ⟨rfl, rfl, trivial⟩
  · intro x2 H3 h
    replace h := hR4 x2 H3 h
    obtain ⟨J6, h, hR9⟩ := h
    refine GC.join (α := Int × Int) J6 (fun x7 => [(0, .int .u64 x7.1), (2, .int .i64 x7.2)]) ?_ ?_
    · skip
      refine GC.seq ?_
      refine GC.region ?_
      refine GL.val trivial rfl (OV.move (v := .int .u64 x2.1) rfl) ?_
      refine GL.val trivial rfl (OV.ibin (v := .bool (decide ((x2.1 : Int) ≥ 65536))) rfl rfl rfl) ?_
      refine GL.nil ?_
      refine GC.cond (b := decide ((x2.1 : Int) ≥ 65536)) rfl (fun hc10 => ?_) (fun hc10 => ?_)
      · replace h := And.left h hc10
        refine GC.seq ?_
        refine GC.region ?_
        refine GL.val trivial rfl (OV.move (v := .int .u64 x2.1) rfl) ?_
        refine GL.val trivial rfl (OV.shr rfl rfl (by decide)) ?_
        refine GL.val trivial rfl (OV.assign (v := .int .u64 (sShr .u64 x2.1 16)) rfl) ?_
        refine GL.nil ?_
        refine GC.region ?_
        refine GL.val trivial rfl (OV.move (v := .int .i64 x2.2) rfl) ?_
        refine GL.val trivial rfl (OV.ibin (v := .int .i64 (w .i64 (x2.2 + 16))) rfl rfl rfl) ?_
        refine GL.val trivial rfl (OV.assign (v := .int .i64 (w .i64 (x2.2 + 16))) rfl) ?_
        exact GL.jump (fun _ _ h => h) ((sShr .u64 x2.1 16), (w .i64 (x2.2 + 16))) h ⟨rfl, rfl, trivial⟩
      · replace h := And.right h hc10
        exact GC.jump (fun _ _ h => h) (x2.1, x2.2) h ⟨rfl, rfl, trivial⟩
    · intro x7 H8 h
      replace h := hR9 x7 H8 h
      obtain ⟨J11, h, hR14⟩ := h
      refine GC.join (α := Int × Int) J11 (fun x12 => [(0, .int .u64 x12.1), (2, .int .i64 x12.2)]) ?_ ?_
      · skip
        refine GC.seq ?_
        refine GC.region ?_
        refine GL.val trivial rfl (OV.move (v := .int .u64 x7.1) rfl) ?_
        refine GL.val trivial rfl (OV.ibin (v := .bool (decide ((x7.1 : Int) ≥ 256))) rfl rfl rfl) ?_
        refine GL.nil ?_
        refine GC.cond (b := decide ((x7.1 : Int) ≥ 256)) rfl (fun hc15 => ?_) (fun hc15 => ?_)
        · replace h := And.left h hc15
          refine GC.seq ?_
          refine GC.region ?_
          refine GL.val trivial rfl (OV.move (v := .int .u64 x7.1) rfl) ?_
          refine GL.val trivial rfl (OV.shr rfl rfl (by decide)) ?_
          refine GL.val trivial rfl (OV.assign (v := .int .u64 (sShr .u64 x7.1 8)) rfl) ?_
          refine GL.nil ?_
          refine GC.region ?_
          refine GL.val trivial rfl (OV.move (v := .int .i64 x7.2) rfl) ?_
          refine GL.val trivial rfl (OV.ibin (v := .int .i64 (w .i64 (x7.2 + 8))) rfl rfl rfl) ?_
          refine GL.val trivial rfl (OV.assign (v := .int .i64 (w .i64 (x7.2 + 8))) rfl) ?_
          exact GL.jump (fun _ _ h => h) ((sShr .u64 x7.1 8), (w .i64 (x7.2 + 8))) h ⟨rfl, rfl, trivial⟩
        · replace h := And.right h hc15
          exact GC.jump (fun _ _ h => h) (x7.1, x7.2) h ⟨rfl, rfl, trivial⟩
      · intro x12 H13 h
        replace h := hR14 x12 H13 h
        refine GC.seq ?_
        refine GC.region ?_
        refine GL.val trivial rfl (OV.move (v := .int .i64 x12.2) rfl) ?_
        refine GL.val trivial rfl (OV.move (v := .int .u64 x12.1) rfl) ?_
        refine GL.val trivial rfl (OV.convInt rfl rfl rfl) ?_
        obtain ⟨c16, ha17, hb18, h⟩ := h
        refine GL.val trivial rfl (OV.indexStr (s := [0, 1, 2, 2, 3, 3, 3, 3, 4, 4, 4, 4, 4, 4, 4, 4, 5, 5, 5, 5, 5, 5, 5, 5, 5, 5, 5, 5, 5, 5, 5, 5, 6, 6, 6, 6, 6, 6, 6, 6, 6, 6, 6, 6, 6, 6, 6, 6, 6, 6, 6, 6, 6, 6, 6, 6, 6, 6, 6, 6, 6, 6, 6, 6, 7, 7, 7, 7, 7, 7, 7, 7, 7, 7, 7, 7, 7, 7, 7, 7, 7, 7, 7, 7, 7, 7, 7, 7, 7, 7, 7, 7, 7, 7, 7, 7, 7, 7, 7, 7, 7, 7, 7, 7, 7, 7, 7, 7, 7, 7, 7, 7, 7, 7, 7, 7, 7, 7, 7, 7, 7, 7, 7, 7, 7, 7, 7, 7, 8, 8, 8, 8, 8, 8, 8, 8, 8, 8, 8, 8, 8, 8, 8, 8, 8, 8, 8, 8, 8, 8, 8, 8, 8, 8, 8, 8, 8, 8, 8, 8, 8, 8, 8, 8, 8, 8, 8, 8, 8, 8, 8, 8, 8, 8, 8, 8, 8, 8, 8, 8, 8, 8, 8, 8, 8, 8, 8, 8, 8, 8, 8, 8, 8, 8, 8, 8, 8, 8, 8, 8, 8, 8, 8, 8, 8, 8, 8, 8, 8, 8, 8, 8, 8, 8, 8, 8, 8, 8, 8, 8, 8, 8, 8, 8, 8, 8, 8, 8, 8, 8, 8, 8, 8, 8, 8, 8, 8, 8, 8, 8, 8, 8, 8, 8, 8, 8, 8, 8, 8, 8, 8, 8, 8, 8, 8, 8]) rfl rfl rfl ha17 hb18) ?_
        refine GL.val trivial rfl (OV.convInt rfl rfl rfl) ?_
        refine GL.val trivial rfl (OV.ibin (v := .int .i64 (w .i64 (x12.2 + (w .i64 (c16.toNat : Int))))) rfl rfl rfl) ?_
        refine GL.val trivial rfl (OV.assign (v := .int .i64 (w .i64 (x12.2 + (w .i64 (c16.toNat : Int))))) rfl) ?_
        refine GL.nil ?_
        exact GC.ret (fun _ _ hf hs => post_tmp1 rfl rfl hf hs ⟨(w .i64 (x12.2 + (w .i64 (c16.toNat : Int)))), rfl, h⟩)

def sh_value_depth (C : Ctx) (p_v : T_api_Value) (p_most : Int) (K : Int → Heap → Prop) (H : Heap) : Prop :=
  nw (T_api_Value.c p_v) (fun b1 H2 =>
 jn (α := Int) (fun x4 H5 =>
 K (w .i64 (x4 + 1)) H5)
 (fun J3 => ldL H2 ((b1, 0).1, (b1, 0).2 + 3) fun x7 =>
 lp (α := Int × Int) (0, 0) H2 (fun x9 J10 H11 =>
 ift (decide ((x9.2 : Int) < (Sl.len x7 : Int)))
 (ixa x7 x9.2 fun p13 =>
 ldT H11 T_api_Value.c (p13.1, p13.2 + (x9.2 : Int).toNat * 4) fun x18 =>
 nw (T_api_Value.c T_api_Value.zero) (fun b20 H21 =>
 stT (b20, 0) (T_api_Value.c x18) (fun H22 =>
 ift (decide ((x9.1 : Int) ≥ p_most))
 (J3 x9.1 H22)
 (ldT H22 T_api_Value.c (b20, 0) fun x24 =>
 c_value_depth C x24 (w .i64 (p_most - 1)) (fun r26 H27 =>
 J10 ((if r26 > x9.1 then r26 else x9.1 : Int), (w .i64 (x9.2 + 1))) H27) H22)) H21) H11)
 (J3 x9.1 H11)))) H

theorem ad_value_depth (C : Ctx) (p_v : T_api_Value) (p_most : Int) (K : Int → Heap → Prop) (H : Heap) (h : sh_value_depth C p_v p_most K H) : c_value_depth C p_v p_most K H := by
  refine Spec.enter Tryd.func70 rfl Tryd.ntmps70 rfl ?_
  refine GC.sub [(0, .agg (T_api_Value.c p_v).toArray), (1, .int .i64 p_most)] ⟨rfl, rfl, trivial⟩ ?_
  refine GC.seq ?_
  refine GC.region ?_
  refine GL.box (v := .agg (T_api_Value.c p_v).toArray) (cs := T_api_Value.c p_v) h trivial rfl rfl rfl ?_
  intro b1 H2 h
  refine GL.val trivial rfl (OV.assign (v := .int .i64 0) rfl) ?_
  refine GL.nil ?_
  refine GC.seq ?_
  refine GC.region ?_
  refine GL.val trivial rfl (OV.assign (v := .int .i64 0) rfl) ?_
  refine GL.nil ?_
  obtain ⟨J3, h, hR6⟩ := h
  refine GC.join (α := Int) J3 (fun x4 => [(5, .int .i64 x4)]) ?_ ?_
  · skip
    refine GC.seq ?_
    refine GC.region ?_
    refine GL.val trivial rfl (OV.fieldAddr (p := (b1, 0)) rfl rfl) ?_
    obtain ⟨x7, hr8, h⟩ := h
    refine GL.val trivial rfl (OV.load (p := ((b1, 0).1, (b1, 0).2 + 3)) rfl rfl hr8) ?_
    refine GL.val trivial rfl (OV.lenSl (s := x7) rfl rfl) ?_
    refine GL.val trivial rfl (OV.move (v := .int .i64 0) rfl) ?_
    refine GL.nil ?_
    refine GC.block ?_
    refine GC.loop (α := Int × Int) h (fun x9 => [(5, .int .i64 x9.1), (11, .int .i64 x9.2), (1, .int .i64 p_most), (9, slv x7), (10, .int .i64 (Sl.len x7 : Int))]) ⟨rfl, rfl, rfl, rfl, rfl, trivial⟩ ?_
    intro x9 H11 J10 h
    refine GC.seq ?_
    refine GC.region ?_
    refine GL.val trivial rfl (OV.ibin (v := .bool (decide ((x9.2 : Int) < (Sl.len x7 : Int)))) rfl rfl rfl) ?_
    refine GL.nil ?_
    refine GC.seq ?_
    refine GC.cond (b := decide ((x9.2 : Int) < (Sl.len x7 : Int))) rfl (fun hc12 => ?_) (fun hc12 => ?_)
    · replace h := And.left h hc12
      refine GC.skip ?_
      refine GC.seq ?_
      refine GC.block ?_
      refine GC.seq ?_
      refine GC.region ?_
      obtain ⟨p13, ha14, hb15, hc16, hd17, h⟩ := h
      refine GL.val trivial rfl (OV.indexAddr (s := x7) rfl rfl rfl rfl ha14 hb15 hc16 hd17) ?_
      obtain ⟨x18, hr19, h⟩ := h
      refine GL.val trivial rfl (OV.loadT (p := (p13.1, p13.2 + (x9.2 : Int).toNat * 4)) (cs := T_api_Value.c x18) rfl rfl rfl hr19) ?_
      refine GL.alloc (cs := T_api_Value.c T_api_Value.zero) h trivial rfl rfl rfl ?_
      intro b20 H21 h
      refine GL.storeT (p := (b20, 0)) (vs := T_api_Value.c x18) h trivial rfl rfl rfl rfl ?_
      intro H22 h
      refine GL.nil ?_
      refine GC.seq ?_
      refine GC.seq ?_
      refine GC.region ?_
      refine GL.val trivial rfl (OV.move (v := .int .i64 x9.1) rfl) ?_
      refine GL.val trivial rfl (OV.move (v := .int .i64 p_most) rfl) ?_
      refine GL.val trivial rfl (OV.ibin (v := .bool (decide ((x9.1 : Int) ≥ p_most))) rfl rfl rfl) ?_
      refine GL.nil ?_
      refine GC.cond (b := decide ((x9.1 : Int) ≥ p_most)) rfl (fun hc23 => ?_) (fun hc23 => ?_)
      · replace h := And.left h hc23
        exact GC.exit_jump (fun _ _ h => h) x9.1 h ⟨rfl, trivial⟩
      · replace h := And.right h hc23
        refine GC.skip ?_
        refine GC.region ?_
        refine GL.val trivial rfl (OV.move (v := .int .i64 x9.1) rfl) ?_
        obtain ⟨x24, hr25, h⟩ := h
        refine GL.val trivial rfl (OV.loadT (p := (b20, 0)) (cs := T_api_Value.c x24) rfl rfl rfl hr25) ?_
        refine GL.val trivial rfl (OV.move (v := .int .i64 p_most) rfl) ?_
        refine GL.val trivial rfl (OV.ibin (v := .int .i64 (w .i64 (p_most - 1))) rfl rfl rfl) ?_
        refine GL.call h trivial rfl ok_value_depth (vs := [.agg (T_api_Value.c x24).toArray, .int .i64 (w .i64 (p_most - 1))]) rfl ?_
        rintro _ H27 ⟨r26, rfl, h⟩
        refine GL.val trivial rfl (OV.maxI rfl rfl) ?_
        refine GL.val trivial rfl (OV.assign (v := .int .i64 (if r26 > x9.1 then r26 else x9.1 : Int)) rfl) ?_
        refine GL.nil_to (fun _ _ h => h) ?_
        refine GC.region ?_
        refine GL.val trivial rfl (OV.ibin (v := .int .i64 (w .i64 (x9.2 + 1))) rfl rfl rfl) ?_
        refine GL.val trivial rfl (OV.move (v := .int .i64 (w .i64 (x9.2 + 1))) rfl) ?_
        exact GL.jump (fun _ _ h => h) ((if r26 > x9.1 then r26 else x9.1 : Int), (w .i64 (x9.2 + 1))) h ⟨rfl, rfl, rfl, rfl, rfl, trivial⟩
    · replace h := And.right h hc12
      exact GC.exit_jump (fun _ _ h => h) x9.1 h ⟨rfl, trivial⟩
  · intro x4 H5 h
    replace h := hR6 x4 H5 h
    refine GC.seq ?_
    refine GC.region ?_
    refine GL.val trivial rfl (OV.move (v := .int .i64 x4) rfl) ?_
    refine GL.val trivial rfl (OV.ibin (v := .int .i64 (w .i64 (x4 + 1))) rfl rfl rfl) ?_
    refine GL.val trivial rfl (OV.assign (v := .int .i64 (w .i64 (x4 + 1))) rfl) ?_
    refine GL.nil ?_
    exact GC.ret (fun _ _ hf hs => post_tmp1 rfl rfl hf hs ⟨(w .i64 (x4 + 1)), rfl, h⟩)

def sh_value_item_look (C : Ctx) (p_v : T_api_Value) (K : Bool → Bool → Heap → Prop) (H : Heap) : Prop :=
  nw (T_api_Value.c p_v) (fun b1 H2 =>
 ldI H2 .i64 ((b1, 0).1, (b1, 0).2 + 1) fun x3 =>
 jn (α := Bool) (fun b5 H11 =>
 jn (α := Bool) (fun b12 H18 =>
 jn (α := Bool × Bool) (fun x20 H21 =>
 ldL H21 ((b1, 0).1, (b1, 0).2 + 3) fun x149 =>
 lp (α := Bool × Bool × Int) (x20.1, x20.2, 0) H21 (fun x151 J152 H153 =>
 ift (decide ((x151.2.2 : Int) < (Sl.len x149 : Int)))
 (ixa x149 x151.2.2 fun p155 =>
 ldT H153 T_api_Value.c (p155.1, p155.2 + (x151.2.2 : Int).toNat * 4) fun x160 =>
 nw (T_api_Value.c T_api_Value.zero) (fun b162 H163 =>
 stT (b162, 0) (T_api_Value.c x160) (fun H164 =>
 ldT H164 T_api_Value.c (b162, 0) fun x165 =>
 c_value_item_look C x165 (fun r167 r168 H169 =>
 J152 ((x151.1 && r167), (x151.2.1 && r168), (w .i64 (x151.2.2 + 1))) H169) H164) H163) H153)
 (K x151.1 x151.2.1 H153)))
 (fun J19 => ldI H18 .u8 ((b1, 0).1, (b1, 0).2 + 0) fun x23 =>
 ift ((x23 : Int) == 1)
 (ldI H18 .i64 ((b1, 0).1, (b1, 0).2 + 1) fun x26 =>
 jn (α := Bool) (fun b28 H34 =>
 jn (α := Bool) (fun b35 H41 =>
 jn (α := Bool) (fun b42 H48 =>
 J19 (b42, true) H48)
 (fun J43 => ift b35
 (ldL H41 ((b1, 0).1, (b1, 0).2 + 3) fun x46 =>
 J43 (((Sl.len x46 : Int) : Int) == 0) H41)
 (J43 false H41)))
 (fun J36 => ift b28
 (ldS H34 ((b1, 0).1, (b1, 0).2 + 2) fun x39 =>
 J36 (x39 == ([] : Str)) H34)
 (J36 false H34)))
 (fun J29 => ift ((x26 : Int) == 0)
 (J29 true H18)
 (ldI H18 .i64 ((b1, 0).1, (b1, 0).2 + 1) fun x32 =>
 J29 ((x32 : Int) == 1) H18)))
 (ift ((x23 : Int) == 2)
 (ldS H18 ((b1, 0).1, (b1, 0).2 + 2) fun x50 =>
 jn (α := Bool) (fun b52 H58 =>
 J19 (b52, true) H58)
 (fun J53 => ift (x50 == ([] : Str))
 (ldL H18 ((b1, 0).1, (b1, 0).2 + 3) fun x56 =>
 J53 (((Sl.len x56 : Int) : Int) == 0) H18)
 (J53 false H18)))
 (ift ((x23 : Int) == 3)
 (ldS H18 ((b1, 0).1, (b1, 0).2 + 2) fun x60 =>
 c_value_number C x60 (fun r62 r63 H64 =>
 jn (α := Bool) (fun b65 H71 =>
 jn (α := Bool) (fun b72 H78 =>
 J19 (b72, (decide ((r62 : Int) ≤ 200))) H78)
 (fun J73 => ift b65
 (ldL H71 ((b1, 0).1, (b1, 0).2 + 3) fun x76 =>
 J73 (((Sl.len x76 : Int) : Int) == 0) H71)
 (J73 false H71)))
 (fun J66 => ift r63
 (ldI H64 .i64 ((b1, 0).1, (b1, 0).2 + 1) fun x69 =>
 J66 ((x69 : Int) == 0) H64)
 (J66 false H64))) H18)
 (ift ((x23 : Int) == 4)
 (jn (α := Bool × Bool) (fun x81 H82 =>
 J19 (x81.1, x81.2) H82)
 (fun J80 => dr H18 fun Hs84 =>
 ldI Hs84 .i64 ((b1, 0).1, (b1, 0).2 + 1) fun x86 =>
 ldS Hs84 ((b1, 0).1, (b1, 0).2 + 2) fun x88 =>
 ift ((x86 : Int) == 0)
 (ldL Hs84 ((b1, 0).1, (b1, 0).2 + 3) fun x91 =>
 J80 ((((Sl.len x91 : Int) : Int) == 0), (decide (((List.length x88 : Int) : Int) ≤ 4096))) H18)
 (J80 (false, (decide (((List.length x88 : Int) : Int) ≤ 4096))) H18)))
 (ift ((x23 : Int) == 5)
 (jn (α := Bool × Bool) (fun x95 H96 =>
 J19 (x95.1, x95.2) H96)
 (fun J94 => dr H18 fun Hs98 =>
 ldI Hs98 .i64 ((b1, 0).1, (b1, 0).2 + 1) fun x100 =>
 ldL Hs98 ((b1, 0).1, (b1, 0).2 + 3) fun x102 =>
 ift ((x100 : Int) == 0)
 (ldS Hs98 ((b1, 0).1, (b1, 0).2 + 2) fun x105 =>
 ift (x105 == ([] : Str))
 (ldL Hs98 ((b1, 0).1, (b1, 0).2 + 3) fun x108 =>
 J94 ((((Sl.len x108 : Int) : Int) != 1), (decide (((Sl.len x102 : Int) : Int) ≤ 16))) H18)
 (J94 (false, (decide (((Sl.len x102 : Int) : Int) ≤ 16))) H18))
 (J94 (false, (decide (((Sl.len x102 : Int) : Int) ≤ 16))) H18)))
 (ift ((x23 : Int) == 6)
 (ldS H18 ((b1, 0).1, (b1, 0).2 + 2) fun x111 =>
 c_strings_Cut C x111 [46] (fun r113 r114 r115 H116 =>
 jn (α := Bool × Bool) (fun x118 H119 =>
 J19 (x118.1, x118.2) H119)
 (fun J117 => dr H116 fun Hs121 =>
 ldI Hs121 .i64 ((b1, 0).1, (b1, 0).2 + 1) fun x123 =>
 ldL Hs121 ((b1, 0).1, (b1, 0).2 + 3) fun x125 =>
 ift ((x123 : Int) == 0)
 (c_value_name C r113 (fun r129 H130 =>
 Heap.le Hs121 H130 ∧
 ift r129
 (ift r115
 (c_value_name C r114 (fun r134 H135 =>
 Heap.le Hs121 H135 ∧
 ift r134
 (J117 (true, (decide (((Sl.len x125 : Int) : Int) ≤ 8))) H135)
 (ift (!r115)
 (ldS Hs121 ((b1, 0).1, (b1, 0).2 + 2) fun x138 =>
 ift (!(x138 == ([116, 114, 117, 101] : Str)))
 (ldS Hs121 ((b1, 0).1, (b1, 0).2 + 2) fun x141 =>
 J117 ((!(x141 == ([102, 97, 108, 115, 101] : Str))), (decide (((Sl.len x125 : Int) : Int) ≤ 8))) H135)
 (J117 (false, (decide (((Sl.len x125 : Int) : Int) ≤ 8))) H135))
 (J117 (false, (decide (((Sl.len x125 : Int) : Int) ≤ 8))) H135))) H130)
 (ift (!r115)
 (ldS Hs121 ((b1, 0).1, (b1, 0).2 + 2) fun x144 =>
 ift (!(x144 == ([116, 114, 117, 101] : Str)))
 (ldS Hs121 ((b1, 0).1, (b1, 0).2 + 2) fun x147 =>
 J117 ((!(x147 == ([102, 97, 108, 115, 101] : Str))), (decide (((Sl.len x125 : Int) : Int) ≤ 8))) H130)
 (J117 (false, (decide (((Sl.len x125 : Int) : Int) ≤ 8))) H130))
 (J117 (false, (decide (((Sl.len x125 : Int) : Int) ≤ 8))) H130)))
 (J117 (false, (decide (((Sl.len x125 : Int) : Int) ≤ 8))) H130)) H116)
 (J117 (false, (decide (((Sl.len x125 : Int) : Int) ≤ 8))) H116))) H18)
 (J19 (false, true) H18))))))))
 (fun J13 => ift b5
 (ldL H11 ((b1, 0).1, (b1, 0).2 + 3) fun x16 =>
 J13 (((Sl.len x16 : Int) : Int) == 0) H11)
 (J13 false H11)))
 (fun J6 => ift ((x3 : Int) == 0)
 (ldS H2 ((b1, 0).1, (b1, 0).2 + 2) fun x9 =>
 J6 (x9 == ([] : Str)) H2)
 (J6 false H2))) H

theorem ad_value_item_look (C : Ctx) (p_v : T_api_Value) (K : Bool → Bool → Heap → Prop) (H : Heap) (h : sh_value_item_look C p_v K H) : c_value_item_look C p_v K H := by
  refine Spec.enter Tryd.func71 rfl Tryd.ntmps71 rfl ?_
  refine GC.sub [(0, .agg (T_api_Value.c p_v).toArray)] ⟨rfl, trivial⟩ ?_
  refine GC.seq ?_
  refine GC.region ?_
  refine GL.box (v := .agg (T_api_Value.c p_v).toArray) (cs := T_api_Value.c p_v) h trivial rfl rfl rfl ?_
  intro b1 H2 h
  refine GL.val trivial rfl (OV.assign (v := .bool false) rfl) ?_
  refine GL.val trivial rfl (OV.assign (v := .bool false) rfl) ?_
  refine GL.nil ?_
  refine GC.seq ?_
  refine GC.region ?_
  refine GL.val trivial rfl (OV.fieldAddr (p := (b1, 0)) rfl rfl) ?_
  obtain ⟨x3, hr4, h⟩ := h
  refine GL.val trivial rfl (OV.load (p := ((b1, 0).1, (b1, 0).2 + 1)) rfl rfl hr4) ?_
  refine GL.val trivial rfl (OV.ibin (v := .bool ((x3 : Int) == 0)) rfl rfl rfl) ?_
  refine GL.val trivial rfl (OV.move (v := .bool ((x3 : Int) == 0)) rfl) ?_
  obtain ⟨J6, h, hR7⟩ := h
  refine GL.cut (α := Bool) 4 J6 (fun b5 => [(20, .bool b5), (1, pv (some (b1, 0)))]) ?_ ?_
  · rcases Bool.eq_false_or_eq_true ((x3 : Int) == 0) with hc8 | hc8
    · skip
      replace h := And.left h hc8
      refine GL.val ⟨_, _, rfl, rfl, hc8⟩ rfl (OV.fieldAddr (p := (b1, 0)) rfl rfl) ?_
      obtain ⟨x9, hr10, h⟩ := h
      refine GL.val ⟨_, _, rfl, rfl, hc8⟩ rfl (OV.load (p := ((b1, 0).1, (b1, 0).2 + 2)) rfl rfl hr10) ?_
      refine GL.val ⟨_, _, rfl, rfl, hc8⟩ rfl (OV.sbin (a := x9) (b := ([] : Str)) (v := .bool (x9 == ([] : Str))) rfl rfl rfl) ?_
      refine GL.val trivial rfl (OV.pickT (b := (x3 : Int) == 0) (v := .bool (x9 == ([] : Str))) rfl hc8 rfl) ?_
      exact GL.jump (fun _ _ h => h) (x9 == ([] : Str)) h ⟨rfl, rfl, trivial⟩
    · skip
      replace h := And.right h hc8
      refine GL.skip ⟨_, rfl, .inl ⟨_, rfl, hc8⟩⟩ rfl ?_
      refine GL.skip ⟨_, rfl, .inl ⟨_, rfl, hc8⟩⟩ rfl ?_
      refine GL.skip ⟨_, rfl, .inl ⟨_, rfl, hc8⟩⟩ rfl ?_
      refine GL.val trivial rfl (OV.pickF (b := (x3 : Int) == 0) (v := .bool false) rfl hc8 rfl) ?_
      exact GL.jump (fun _ _ h => h) false h ⟨rfl, rfl, trivial⟩
  intro b5 H11 h
  replace h := hR7 b5 H11 h
  refine GL.val trivial rfl (OV.move (v := .bool b5) rfl) ?_
  obtain ⟨J13, h, hR14⟩ := h
  refine GL.cut (α := Bool) 5 J13 (fun b12 => [(26, .bool b12), (1, pv (some (b1, 0)))]) ?_ ?_
  · rcases Bool.eq_false_or_eq_true b5 with hc15 | hc15
    · skip
      replace h := And.left h hc15
      refine GL.val ⟨_, _, rfl, rfl, hc15⟩ rfl (OV.fieldAddr (p := (b1, 0)) rfl rfl) ?_
      obtain ⟨x16, hr17, h⟩ := h
      refine GL.val ⟨_, _, rfl, rfl, hc15⟩ rfl (OV.load (p := ((b1, 0).1, (b1, 0).2 + 3)) rfl rfl hr17) ?_
      refine GL.val ⟨_, _, rfl, rfl, hc15⟩ rfl (OV.lenSl (s := x16) rfl rfl) ?_
      refine GL.val ⟨_, _, rfl, rfl, hc15⟩ rfl (OV.ibin (v := .bool (((Sl.len x16 : Int) : Int) == 0)) rfl rfl rfl) ?_
      refine GL.val trivial rfl (OV.pickT (b := b5) (v := .bool (((Sl.len x16 : Int) : Int) == 0)) rfl hc15 rfl) ?_
      exact GL.jump (fun _ _ h => h) (((Sl.len x16 : Int) : Int) == 0) h ⟨rfl, rfl, trivial⟩
    · skip
      replace h := And.right h hc15
      refine GL.skip ⟨_, rfl, .inl ⟨_, rfl, hc15⟩⟩ rfl ?_
      refine GL.skip ⟨_, rfl, .inl ⟨_, rfl, hc15⟩⟩ rfl ?_
      refine GL.skip ⟨_, rfl, .inl ⟨_, rfl, hc15⟩⟩ rfl ?_
      refine GL.skip ⟨_, rfl, .inl ⟨_, rfl, hc15⟩⟩ rfl ?_
      refine GL.val trivial rfl (OV.pickF (b := b5) (v := .bool false) rfl hc15 rfl) ?_
      exact GL.jump (fun _ _ h => h) false h ⟨rfl, rfl, trivial⟩
  intro b12 H18 h
  replace h := hR14 b12 H18 h
  refine GL.val trivial rfl (OV.assign (v := .bool b12) rfl) ?_
  refine GL.val trivial rfl (OV.assign (v := .bool true) rfl) ?_
  refine GL.nil ?_
  obtain ⟨J19, h, hR22⟩ := h
  refine GC.join (α := Bool × Bool) J19 (fun x20 => [(2, .bool x20.1), (3, .bool x20.2), (1, pv (some (b1, 0)))]) ?_ ?_
  · skip
    refine GC.seq ?_
    refine GC.region ?_
    refine GL.val trivial rfl (OV.fieldAddr (p := (b1, 0)) rfl rfl) ?_
    obtain ⟨x23, hr24, h⟩ := h
    refine GL.val trivial rfl (OV.load (p := ((b1, 0).1, (b1, 0).2 + 0)) rfl rfl hr24) ?_
    refine GL.nil ?_
    refine GC.block ?_
    refine GC.seq ?_
    refine GC.region ?_
    refine GL.val trivial rfl (OV.ibin (v := .bool ((x23 : Int) == 1)) rfl rfl rfl) ?_
    refine GL.val trivial rfl (OV.assign (v := .bool ((x23 : Int) == 1)) rfl) ?_
    refine GL.nil ?_
    refine GC.cond (b := (x23 : Int) == 1) rfl (fun hc25 => ?_) (fun hc25 => ?_)
    · replace h := And.left h hc25
      refine GC.region ?_
      refine GL.val trivial rfl (OV.fieldAddr (p := (b1, 0)) rfl rfl) ?_
      obtain ⟨x26, hr27, h⟩ := h
      refine GL.val trivial rfl (OV.load (p := ((b1, 0).1, (b1, 0).2 + 1)) rfl rfl hr27) ?_
      refine GL.val trivial rfl (OV.ibin (v := .bool ((x26 : Int) == 0)) rfl rfl rfl) ?_
      refine GL.val trivial rfl (OV.move (v := .bool ((x26 : Int) == 0)) rfl) ?_
      obtain ⟨J29, h, hR30⟩ := h
      refine GL.cut (α := Bool) 4 J29 (fun b28 => [(38, .bool b28), (1, pv (some (b1, 0))), (3, .bool true)]) ?_ ?_
      · rcases Bool.eq_false_or_eq_true ((x26 : Int) == 0) with hc31 | hc31
        · skip
          replace h := And.left h hc31
          refine GL.skip ⟨_, rfl, .inl ⟨_, rfl, hc31⟩⟩ rfl ?_
          refine GL.skip ⟨_, rfl, .inl ⟨_, rfl, hc31⟩⟩ rfl ?_
          refine GL.skip ⟨_, rfl, .inl ⟨_, rfl, hc31⟩⟩ rfl ?_
          refine GL.val trivial rfl (OV.pickT (b := (x26 : Int) == 0) (v := .bool true) rfl hc31 rfl) ?_
          exact GL.jump (fun _ _ h => h) true h ⟨rfl, rfl, rfl, trivial⟩
        · skip
          replace h := And.right h hc31
          refine GL.val ⟨_, _, rfl, rfl, hc31⟩ rfl (OV.fieldAddr (p := (b1, 0)) rfl rfl) ?_
          obtain ⟨x32, hr33, h⟩ := h
          refine GL.val ⟨_, _, rfl, rfl, hc31⟩ rfl (OV.load (p := ((b1, 0).1, (b1, 0).2 + 1)) rfl rfl hr33) ?_
          refine GL.val ⟨_, _, rfl, rfl, hc31⟩ rfl (OV.ibin (v := .bool ((x32 : Int) == 1)) rfl rfl rfl) ?_
          refine GL.val trivial rfl (OV.pickF (b := (x26 : Int) == 0) (v := .bool ((x32 : Int) == 1)) rfl hc31 rfl) ?_
          exact GL.jump (fun _ _ h => h) ((x32 : Int) == 1) h ⟨rfl, rfl, rfl, trivial⟩
      intro b28 H34 h
      replace h := hR30 b28 H34 h
      refine GL.val trivial rfl (OV.move (v := .bool b28) rfl) ?_
      obtain ⟨J36, h, hR37⟩ := h
      refine GL.cut (α := Bool) 4 J36 (fun b35 => [(43, .bool b35), (1, pv (some (b1, 0))), (3, .bool true)]) ?_ ?_
      · rcases Bool.eq_false_or_eq_true b28 with hc38 | hc38
        · skip
          replace h := And.left h hc38
          refine GL.val ⟨_, _, rfl, rfl, hc38⟩ rfl (OV.fieldAddr (p := (b1, 0)) rfl rfl) ?_
          obtain ⟨x39, hr40, h⟩ := h
          refine GL.val ⟨_, _, rfl, rfl, hc38⟩ rfl (OV.load (p := ((b1, 0).1, (b1, 0).2 + 2)) rfl rfl hr40) ?_
          refine GL.val ⟨_, _, rfl, rfl, hc38⟩ rfl (OV.sbin (a := x39) (b := ([] : Str)) (v := .bool (x39 == ([] : Str))) rfl rfl rfl) ?_
          refine GL.val trivial rfl (OV.pickT (b := b28) (v := .bool (x39 == ([] : Str))) rfl hc38 rfl) ?_
          exact GL.jump (fun _ _ h => h) (x39 == ([] : Str)) h ⟨rfl, rfl, rfl, trivial⟩
        · skip
          replace h := And.right h hc38
          refine GL.skip ⟨_, rfl, .inl ⟨_, rfl, hc38⟩⟩ rfl ?_
          refine GL.skip ⟨_, rfl, .inl ⟨_, rfl, hc38⟩⟩ rfl ?_
          refine GL.skip ⟨_, rfl, .inl ⟨_, rfl, hc38⟩⟩ rfl ?_
          refine GL.val trivial rfl (OV.pickF (b := b28) (v := .bool false) rfl hc38 rfl) ?_
          exact GL.jump (fun _ _ h => h) false h ⟨rfl, rfl, rfl, trivial⟩
      intro b35 H41 h
      replace h := hR37 b35 H41 h
      refine GL.val trivial rfl (OV.move (v := .bool b35) rfl) ?_
      obtain ⟨J43, h, hR44⟩ := h
      refine GL.cut (α := Bool) 5 J43 (fun b42 => [(49, .bool b42), (1, pv (some (b1, 0))), (3, .bool true)]) ?_ ?_
      · rcases Bool.eq_false_or_eq_true b35 with hc45 | hc45
        · skip
          replace h := And.left h hc45
          refine GL.val ⟨_, _, rfl, rfl, hc45⟩ rfl (OV.fieldAddr (p := (b1, 0)) rfl rfl) ?_
          obtain ⟨x46, hr47, h⟩ := h
          refine GL.val ⟨_, _, rfl, rfl, hc45⟩ rfl (OV.load (p := ((b1, 0).1, (b1, 0).2 + 3)) rfl rfl hr47) ?_
          refine GL.val ⟨_, _, rfl, rfl, hc45⟩ rfl (OV.lenSl (s := x46) rfl rfl) ?_
          refine GL.val ⟨_, _, rfl, rfl, hc45⟩ rfl (OV.ibin (v := .bool (((Sl.len x46 : Int) : Int) == 0)) rfl rfl rfl) ?_
          refine GL.val trivial rfl (OV.pickT (b := b35) (v := .bool (((Sl.len x46 : Int) : Int) == 0)) rfl hc45 rfl) ?_
          exact GL.jump (fun _ _ h => h) (((Sl.len x46 : Int) : Int) == 0) h ⟨rfl, rfl, rfl, trivial⟩
        · skip
          replace h := And.right h hc45
          refine GL.skip ⟨_, rfl, .inl ⟨_, rfl, hc45⟩⟩ rfl ?_
          refine GL.skip ⟨_, rfl, .inl ⟨_, rfl, hc45⟩⟩ rfl ?_
          refine GL.skip ⟨_, rfl, .inl ⟨_, rfl, hc45⟩⟩ rfl ?_
          refine GL.skip ⟨_, rfl, .inl ⟨_, rfl, hc45⟩⟩ rfl ?_
          refine GL.val trivial rfl (OV.pickF (b := b35) (v := .bool false) rfl hc45 rfl) ?_
          exact GL.jump (fun _ _ h => h) false h ⟨rfl, rfl, rfl, trivial⟩
      intro b42 H48 h
      replace h := hR44 b42 H48 h
      refine GL.val trivial rfl (OV.assign (v := .bool b42) rfl) ?_
      exact GL.jump (fun _ _ h => h) (b42, true) h ⟨rfl, rfl, rfl, trivial⟩
    · replace h := And.right h hc25
      refine GC.seq ?_
      refine GC.region ?_
      refine GL.val trivial rfl (OV.ibin (v := .bool ((x23 : Int) == 2)) rfl rfl rfl) ?_
      refine GL.val trivial rfl (OV.assign (v := .bool ((x23 : Int) == 2)) rfl) ?_
      refine GL.nil ?_
      refine GC.cond (b := (x23 : Int) == 2) rfl (fun hc49 => ?_) (fun hc49 => ?_)
      · replace h := And.left h hc49
        refine GC.region ?_
        refine GL.val trivial rfl (OV.fieldAddr (p := (b1, 0)) rfl rfl) ?_
        obtain ⟨x50, hr51, h⟩ := h
        refine GL.val trivial rfl (OV.load (p := ((b1, 0).1, (b1, 0).2 + 2)) rfl rfl hr51) ?_
        refine GL.val trivial rfl (OV.sbin (a := x50) (b := ([] : Str)) (v := .bool (x50 == ([] : Str))) rfl rfl rfl) ?_
        refine GL.val trivial rfl (OV.move (v := .bool (x50 == ([] : Str))) rfl) ?_
        obtain ⟨J53, h, hR54⟩ := h
        refine GL.cut (α := Bool) 5 J53 (fun b52 => [(60, .bool b52), (1, pv (some (b1, 0))), (3, .bool true)]) ?_ ?_
        · rcases Bool.eq_false_or_eq_true (x50 == ([] : Str)) with hc55 | hc55
          · skip
            replace h := And.left h hc55
            refine GL.val ⟨_, _, rfl, rfl, hc55⟩ rfl (OV.fieldAddr (p := (b1, 0)) rfl rfl) ?_
            obtain ⟨x56, hr57, h⟩ := h
            refine GL.val ⟨_, _, rfl, rfl, hc55⟩ rfl (OV.load (p := ((b1, 0).1, (b1, 0).2 + 3)) rfl rfl hr57) ?_
            refine GL.val ⟨_, _, rfl, rfl, hc55⟩ rfl (OV.lenSl (s := x56) rfl rfl) ?_
            refine GL.val ⟨_, _, rfl, rfl, hc55⟩ rfl (OV.ibin (v := .bool (((Sl.len x56 : Int) : Int) == 0)) rfl rfl rfl) ?_
            refine GL.val trivial rfl (OV.pickT (b := x50 == ([] : Str)) (v := .bool (((Sl.len x56 : Int) : Int) == 0)) rfl hc55 rfl) ?_
            exact GL.jump (fun _ _ h => h) (((Sl.len x56 : Int) : Int) == 0) h ⟨rfl, rfl, rfl, trivial⟩
          · skip
            replace h := And.right h hc55
            refine GL.skip ⟨_, rfl, .inl ⟨_, rfl, hc55⟩⟩ rfl ?_
            refine GL.skip ⟨_, rfl, .inl ⟨_, rfl, hc55⟩⟩ rfl ?_
            refine GL.skip ⟨_, rfl, .inl ⟨_, rfl, hc55⟩⟩ rfl ?_
            refine GL.skip ⟨_, rfl, .inl ⟨_, rfl, hc55⟩⟩ rfl ?_
            refine GL.val trivial rfl (OV.pickF (b := x50 == ([] : Str)) (v := .bool false) rfl hc55 rfl) ?_
            exact GL.jump (fun _ _ h => h) false h ⟨rfl, rfl, rfl, trivial⟩
        intro b52 H58 h
        replace h := hR54 b52 H58 h
        refine GL.val trivial rfl (OV.assign (v := .bool b52) rfl) ?_
        exact GL.jump (fun _ _ h => h) (b52, true) h ⟨rfl, rfl, rfl, trivial⟩
      · replace h := And.right h hc49
        refine GC.seq ?_
        refine GC.region ?_
        refine GL.val trivial rfl (OV.ibin (v := .bool ((x23 : Int) == 3)) rfl rfl rfl) ?_
        refine GL.val trivial rfl (OV.assign (v := .bool ((x23 : Int) == 3)) rfl) ?_
        refine GL.nil ?_
        refine GC.cond (b := (x23 : Int) == 3) rfl (fun hc59 => ?_) (fun hc59 => ?_)
        · replace h := And.left h hc59
          refine GC.seq ?_
          refine GC.region ?_
          refine GL.val trivial rfl (OV.fieldAddr (p := (b1, 0)) rfl rfl) ?_
          obtain ⟨x60, hr61, h⟩ := h
          refine GL.val trivial rfl (OV.load (p := ((b1, 0).1, (b1, 0).2 + 2)) rfl rfl hr61) ?_
          refine GL.call h trivial rfl ok_value_number (vs := [sv x60]) rfl ?_
          rintro _ H64 ⟨r62, r63, rfl, h⟩
          refine GL.val trivial rfl (OV.move (v := .tuple #[.int .i64 r62, .bool r63]) rfl) ?_
          refine GL.val trivial rfl (OV.extract (v := .int .i64 r62) rfl rfl) ?_
          refine GL.val trivial rfl (OV.extract (v := .bool r63) rfl rfl) ?_
          refine GL.val trivial rfl (OV.assign (v := .int .i64 r62) rfl) ?_
          refine GL.val trivial rfl (OV.assign (v := .bool r63) rfl) ?_
          refine GL.nil ?_
          refine GC.region ?_
          refine GL.val trivial rfl (OV.move (v := .bool r63) rfl) ?_
          refine GL.val trivial rfl (OV.move (v := .bool r63) rfl) ?_
          obtain ⟨J66, h, hR67⟩ := h
          refine GL.cut (α := Bool) 4 J66 (fun b65 => [(74, .bool b65), (1, pv (some (b1, 0))), (4, .int .i64 r62)]) ?_ ?_
          · rcases Bool.eq_false_or_eq_true r63 with hc68 | hc68
            · skip
              replace h := And.left h hc68
              refine GL.val ⟨_, _, rfl, rfl, hc68⟩ rfl (OV.fieldAddr (p := (b1, 0)) rfl rfl) ?_
              obtain ⟨x69, hr70, h⟩ := h
              refine GL.val ⟨_, _, rfl, rfl, hc68⟩ rfl (OV.load (p := ((b1, 0).1, (b1, 0).2 + 1)) rfl rfl hr70) ?_
              refine GL.val ⟨_, _, rfl, rfl, hc68⟩ rfl (OV.ibin (v := .bool ((x69 : Int) == 0)) rfl rfl rfl) ?_
              refine GL.val trivial rfl (OV.pickT (b := r63) (v := .bool ((x69 : Int) == 0)) rfl hc68 rfl) ?_
              exact GL.jump (fun _ _ h => h) ((x69 : Int) == 0) h ⟨rfl, rfl, rfl, trivial⟩
            · skip
              replace h := And.right h hc68
              refine GL.skip ⟨_, rfl, .inl ⟨_, rfl, hc68⟩⟩ rfl ?_
              refine GL.skip ⟨_, rfl, .inl ⟨_, rfl, hc68⟩⟩ rfl ?_
              refine GL.skip ⟨_, rfl, .inl ⟨_, rfl, hc68⟩⟩ rfl ?_
              refine GL.val trivial rfl (OV.pickF (b := r63) (v := .bool false) rfl hc68 rfl) ?_
              exact GL.jump (fun _ _ h => h) false h ⟨rfl, rfl, rfl, trivial⟩
          intro b65 H71 h
          replace h := hR67 b65 H71 h
          refine GL.val trivial rfl (OV.move (v := .bool b65) rfl) ?_
          obtain ⟨J73, h, hR74⟩ := h
          refine GL.cut (α := Bool) 5 J73 (fun b72 => [(80, .bool b72), (1, pv (some (b1, 0))), (4, .int .i64 r62)]) ?_ ?_
          · rcases Bool.eq_false_or_eq_true b65 with hc75 | hc75
            · skip
              replace h := And.left h hc75
              refine GL.val ⟨_, _, rfl, rfl, hc75⟩ rfl (OV.fieldAddr (p := (b1, 0)) rfl rfl) ?_
              obtain ⟨x76, hr77, h⟩ := h
              refine GL.val ⟨_, _, rfl, rfl, hc75⟩ rfl (OV.load (p := ((b1, 0).1, (b1, 0).2 + 3)) rfl rfl hr77) ?_
              refine GL.val ⟨_, _, rfl, rfl, hc75⟩ rfl (OV.lenSl (s := x76) rfl rfl) ?_
              refine GL.val ⟨_, _, rfl, rfl, hc75⟩ rfl (OV.ibin (v := .bool (((Sl.len x76 : Int) : Int) == 0)) rfl rfl rfl) ?_
              refine GL.val trivial rfl (OV.pickT (b := b65) (v := .bool (((Sl.len x76 : Int) : Int) == 0)) rfl hc75 rfl) ?_
              exact GL.jump (fun _ _ h => h) (((Sl.len x76 : Int) : Int) == 0) h ⟨rfl, rfl, rfl, trivial⟩
            · skip
              replace h := And.right h hc75
              refine GL.skip ⟨_, rfl, .inl ⟨_, rfl, hc75⟩⟩ rfl ?_
              refine GL.skip ⟨_, rfl, .inl ⟨_, rfl, hc75⟩⟩ rfl ?_
              refine GL.skip ⟨_, rfl, .inl ⟨_, rfl, hc75⟩⟩ rfl ?_
              refine GL.skip ⟨_, rfl, .inl ⟨_, rfl, hc75⟩⟩ rfl ?_
              refine GL.val trivial rfl (OV.pickF (b := b65) (v := .bool false) rfl hc75 rfl) ?_
              exact GL.jump (fun _ _ h => h) false h ⟨rfl, rfl, rfl, trivial⟩
          intro b72 H78 h
          replace h := hR74 b72 H78 h
          refine GL.val trivial rfl (OV.move (v := .int .i64 r62) rfl) ?_
          refine GL.val trivial rfl (OV.ibin (v := .bool (decide ((r62 : Int) ≤ 200))) rfl rfl rfl) ?_
          refine GL.val trivial rfl (OV.assign (v := .bool b72) rfl) ?_
          refine GL.val trivial rfl (OV.assign (v := .bool (decide ((r62 : Int) ≤ 200))) rfl) ?_
          exact GL.jump (fun _ _ h => h) (b72, (decide ((r62 : Int) ≤ 200))) h ⟨rfl, rfl, rfl, trivial⟩
        · replace h := And.right h hc59
          refine GC.seq ?_
          refine GC.region ?_
          refine GL.val trivial rfl (OV.ibin (v := .bool ((x23 : Int) == 4)) rfl rfl rfl) ?_
          refine GL.val trivial rfl (OV.assign (v := .bool ((x23 : Int) == 4)) rfl) ?_
          refine GL.nil ?_
          refine GC.cond (b := (x23 : Int) == 4) rfl (fun hc79 => ?_) (fun hc79 => ?_)
          · replace h := And.left h hc79
            obtain ⟨J80, h, hR83⟩ := h
            refine GC.meet (α := Bool × Bool) J80 (fun x81 => [(2, .bool x81.1), (3, .bool x81.2), (1, pv (some (b1, 0)))]) ?_ ?_
            · skip
              obtain ⟨Hs84, hle85, h⟩ := h
              refine GC.any (Hs := Hs84) (by kernel_rfl) hle85 ?_
              refine GA.take 0 rfl (by kernel_rfl) (by kernel_rfl) (by kernel_rfl) (fun _ _ _ h => by obtain ⟨_, _, _, h, _⟩ := h; cases h) trivial rfl (OV.fieldAddr (p := (b1, 0)) rfl rfl) ?_
              obtain ⟨x86, hr87, h⟩ := h
              refine GA.take 1 rfl (by kernel_rfl) (by kernel_rfl) (by kernel_rfl) (fun _ _ _ h => by obtain ⟨_, _, _, h, _⟩ := h; cases h) trivial rfl (OV.load (p := ((b1, 0).1, (b1, 0).2 + 1)) rfl rfl hr87) ?_
              refine GA.take 2 rfl (by kernel_rfl) (by kernel_rfl) (by kernel_rfl) (fun _ _ _ h => by obtain ⟨_, _, _, h, _⟩ := h; cases h) trivial rfl (OV.ibin (v := .bool ((x86 : Int) == 0)) rfl rfl rfl) ?_
              refine GA.take 3 rfl (by kernel_rfl) (by kernel_rfl) (by kernel_rfl) (fun _ _ _ h => by obtain ⟨_, _, _, h, _⟩ := h; cases h) trivial rfl (OV.move (v := .bool ((x86 : Int) == 0)) rfl) ?_
              refine GA.take 9 rfl (by kernel_rfl) (by kernel_rfl) (by kernel_rfl) (fun _ _ _ h => by obtain ⟨_, _, _, h, _⟩ := h; cases h) trivial rfl (OV.fieldAddr (p := (b1, 0)) rfl rfl) ?_
              obtain ⟨x88, hr89, h⟩ := h
              refine GA.take 10 rfl (by kernel_rfl) (by kernel_rfl) (by kernel_rfl) (fun _ _ _ h => by obtain ⟨_, _, _, h, _⟩ := h; cases h) trivial rfl (OV.load (p := ((b1, 0).1, (b1, 0).2 + 2)) rfl rfl hr89) ?_
              refine GA.take 11 rfl (by kernel_rfl) (by kernel_rfl) (by kernel_rfl) (fun _ _ _ h => by obtain ⟨_, _, _, h, _⟩ := h; cases h) trivial rfl (OV.lenStr (s := x88) rfl rfl) ?_
              refine GA.take 12 rfl (by kernel_rfl) (by kernel_rfl) (by kernel_rfl) (fun _ _ _ h => by obtain ⟨_, _, _, h, _⟩ := h; cases h) trivial rfl (OV.ibin (v := .bool (decide (((List.length x88 : Int) : Int) ≤ 4096))) rfl rfl rfl) ?_
              rcases Bool.eq_false_or_eq_true ((x86 : Int) == 0) with hc90 | hc90
              · replace h := And.left h hc90
                refine GA.take 4 rfl (by kernel_rfl) (by kernel_rfl) (by kernel_rfl) (fun _ _ _ h => by obtain ⟨_, _, _, h, _⟩ := h; cases h) ⟨_, _, rfl, rfl, hc90⟩ rfl (OV.fieldAddr (p := (b1, 0)) rfl rfl) ?_
                obtain ⟨x91, hr92, h⟩ := h
                refine GA.take 5 rfl (by kernel_rfl) (by kernel_rfl) (by kernel_rfl) (fun _ _ _ h => by obtain ⟨_, _, _, h, _⟩ := h; cases h) ⟨_, _, rfl, rfl, hc90⟩ rfl (OV.load (p := ((b1, 0).1, (b1, 0).2 + 3)) rfl rfl hr92) ?_
                refine GA.take 6 rfl (by kernel_rfl) (by kernel_rfl) (by kernel_rfl) (fun _ _ _ h => by obtain ⟨_, _, _, h, _⟩ := h; cases h) ⟨_, _, rfl, rfl, hc90⟩ rfl (OV.lenSl (s := x91) rfl rfl) ?_
                refine GA.take 7 rfl (by kernel_rfl) (by kernel_rfl) (by kernel_rfl) (fun _ _ _ h => by obtain ⟨_, _, _, h, _⟩ := h; cases h) ⟨_, _, rfl, rfl, hc90⟩ rfl (OV.ibin (v := .bool (((Sl.len x91 : Int) : Int) == 0)) rfl rfl rfl) ?_
                refine GA.take 8 rfl (by kernel_rfl) (by kernel_rfl) (by kernel_rfl) (fun _ _ _ h => by obtain ⟨_, _, _, h, _⟩ := h; cases h) trivial rfl (OV.pickT (b := (x86 : Int) == 0) (v := .bool (((Sl.len x91 : Int) : Int) == 0)) rfl hc90 rfl) ?_
                refine GA.take 13 rfl (by kernel_rfl) (by kernel_rfl) (by kernel_rfl) (fun _ _ _ h => by obtain ⟨_, _, _, h, _⟩ := h; cases h) trivial rfl (OV.assign (v := .bool (((Sl.len x91 : Int) : Int) == 0)) rfl) ?_
                refine GA.take 14 rfl (by kernel_rfl) (by kernel_rfl) (by kernel_rfl) (fun _ _ _ h => by obtain ⟨_, _, _, h, _⟩ := h; cases h) trivial rfl (OV.assign (v := .bool (decide (((List.length x88 : Int) : Int) ≤ 4096))) rfl) ?_
                refine GA.done (by kernel_rfl) ?_
                exact GL.jump (fun _ _ h => h) ((((Sl.len x91 : Int) : Int) == 0), (decide (((List.length x88 : Int) : Int) ≤ 4096))) h ⟨rfl, rfl, rfl, trivial⟩
              · replace h := And.right h hc90
                refine GA.skip 4 rfl (by kernel_rfl) (by kernel_rfl) (by kernel_rfl) (fun _ _ _ h => by obtain ⟨_, _, _, h, _⟩ := h; cases h) ⟨_, rfl, .inl ⟨_, rfl, hc90⟩⟩ rfl ?_
                refine GA.skip 5 rfl (by kernel_rfl) (by kernel_rfl) (by kernel_rfl) (fun _ _ _ h => by obtain ⟨_, _, _, h, _⟩ := h; cases h) ⟨_, rfl, .inl ⟨_, rfl, hc90⟩⟩ rfl ?_
                refine GA.skip 6 rfl (by kernel_rfl) (by kernel_rfl) (by kernel_rfl) (fun _ _ _ h => by obtain ⟨_, _, _, h, _⟩ := h; cases h) ⟨_, rfl, .inl ⟨_, rfl, hc90⟩⟩ rfl ?_
                refine GA.skip 7 rfl (by kernel_rfl) (by kernel_rfl) (by kernel_rfl) (fun _ _ _ h => by obtain ⟨_, _, _, h, _⟩ := h; cases h) ⟨_, rfl, .inl ⟨_, rfl, hc90⟩⟩ rfl ?_
                refine GA.take 8 rfl (by kernel_rfl) (by kernel_rfl) (by kernel_rfl) (fun _ _ _ h => by obtain ⟨_, _, _, h, _⟩ := h; cases h) trivial rfl (OV.pickF (b := (x86 : Int) == 0) (v := .bool false) rfl hc90 rfl) ?_
                refine GA.take 13 rfl (by kernel_rfl) (by kernel_rfl) (by kernel_rfl) (fun _ _ _ h => by obtain ⟨_, _, _, h, _⟩ := h; cases h) trivial rfl (OV.assign (v := .bool false) rfl) ?_
                refine GA.take 14 rfl (by kernel_rfl) (by kernel_rfl) (by kernel_rfl) (fun _ _ _ h => by obtain ⟨_, _, _, h, _⟩ := h; cases h) trivial rfl (OV.assign (v := .bool (decide (((List.length x88 : Int) : Int) ≤ 4096))) rfl) ?_
                refine GA.done (by kernel_rfl) ?_
                exact GL.jump (fun _ _ h => h) (false, (decide (((List.length x88 : Int) : Int) ≤ 4096))) h ⟨rfl, rfl, rfl, trivial⟩
            · intro x81 H82 h
              replace h := hR83 x81 H82 h
              exact GL.jump (fun _ _ h => h) (x81.1, x81.2) h ⟨rfl, rfl, rfl, trivial⟩
          · replace h := And.right h hc79
            refine GC.seq ?_
            refine GC.region ?_
            refine GL.val trivial rfl (OV.ibin (v := .bool ((x23 : Int) == 5)) rfl rfl rfl) ?_
            refine GL.val trivial rfl (OV.assign (v := .bool ((x23 : Int) == 5)) rfl) ?_
            refine GL.nil ?_
            refine GC.cond (b := (x23 : Int) == 5) rfl (fun hc93 => ?_) (fun hc93 => ?_)
            · replace h := And.left h hc93
              obtain ⟨J94, h, hR97⟩ := h
              refine GC.meet (α := Bool × Bool) J94 (fun x95 => [(2, .bool x95.1), (3, .bool x95.2), (1, pv (some (b1, 0)))]) ?_ ?_
              · skip
                obtain ⟨Hs98, hle99, h⟩ := h
                refine GC.any (Hs := Hs98) (by kernel_rfl) hle99 ?_
                refine GA.take 0 rfl (by kernel_rfl) (by kernel_rfl) (by kernel_rfl) (fun _ _ _ h => by obtain ⟨_, _, _, h, _⟩ := h; cases h) trivial rfl (OV.fieldAddr (p := (b1, 0)) rfl rfl) ?_
                obtain ⟨x100, hr101, h⟩ := h
                refine GA.take 1 rfl (by kernel_rfl) (by kernel_rfl) (by kernel_rfl) (fun _ _ _ h => by obtain ⟨_, _, _, h, _⟩ := h; cases h) trivial rfl (OV.load (p := ((b1, 0).1, (b1, 0).2 + 1)) rfl rfl hr101) ?_
                refine GA.take 2 rfl (by kernel_rfl) (by kernel_rfl) (by kernel_rfl) (fun _ _ _ h => by obtain ⟨_, _, _, h, _⟩ := h; cases h) trivial rfl (OV.ibin (v := .bool ((x100 : Int) == 0)) rfl rfl rfl) ?_
                refine GA.take 3 rfl (by kernel_rfl) (by kernel_rfl) (by kernel_rfl) (fun _ _ _ h => by obtain ⟨_, _, _, h, _⟩ := h; cases h) trivial rfl (OV.move (v := .bool ((x100 : Int) == 0)) rfl) ?_
                refine GA.take 14 rfl (by kernel_rfl) (by kernel_rfl) (by kernel_rfl) (fun _ _ _ h => by obtain ⟨_, _, _, h, _⟩ := h; cases h) trivial rfl (OV.fieldAddr (p := (b1, 0)) rfl rfl) ?_
                obtain ⟨x102, hr103, h⟩ := h
                refine GA.take 15 rfl (by kernel_rfl) (by kernel_rfl) (by kernel_rfl) (fun _ _ _ h => by obtain ⟨_, _, _, h, _⟩ := h; cases h) trivial rfl (OV.load (p := ((b1, 0).1, (b1, 0).2 + 3)) rfl rfl hr103) ?_
                refine GA.take 16 rfl (by kernel_rfl) (by kernel_rfl) (by kernel_rfl) (fun _ _ _ h => by obtain ⟨_, _, _, h, _⟩ := h; cases h) trivial rfl (OV.lenSl (s := x102) rfl rfl) ?_
                refine GA.take 17 rfl (by kernel_rfl) (by kernel_rfl) (by kernel_rfl) (fun _ _ _ h => by obtain ⟨_, _, _, h, _⟩ := h; cases h) trivial rfl (OV.ibin (v := .bool (decide (((Sl.len x102 : Int) : Int) ≤ 16))) rfl rfl rfl) ?_
                rcases Bool.eq_false_or_eq_true ((x100 : Int) == 0) with hc104 | hc104
                · replace h := And.left h hc104
                  refine GA.take 4 rfl (by kernel_rfl) (by kernel_rfl) (by kernel_rfl) (fun _ _ _ h => by obtain ⟨_, _, _, h, _⟩ := h; cases h) ⟨_, _, rfl, rfl, hc104⟩ rfl (OV.fieldAddr (p := (b1, 0)) rfl rfl) ?_
                  obtain ⟨x105, hr106, h⟩ := h
                  refine GA.take 5 rfl (by kernel_rfl) (by kernel_rfl) (by kernel_rfl) (fun _ _ _ h => by obtain ⟨_, _, _, h, _⟩ := h; cases h) ⟨_, _, rfl, rfl, hc104⟩ rfl (OV.load (p := ((b1, 0).1, (b1, 0).2 + 2)) rfl rfl hr106) ?_
                  refine GA.take 6 rfl (by kernel_rfl) (by kernel_rfl) (by kernel_rfl) (fun _ _ _ h => by obtain ⟨_, _, _, h, _⟩ := h; cases h) ⟨_, _, rfl, rfl, hc104⟩ rfl (OV.sbin (a := x105) (b := ([] : Str)) (v := .bool (x105 == ([] : Str))) rfl rfl rfl) ?_
                  refine GA.take 7 rfl (by kernel_rfl) (by kernel_rfl) (by kernel_rfl) (fun _ _ _ h => by obtain ⟨_, _, _, h, _⟩ := h; cases h) trivial rfl (OV.pickT (b := (x100 : Int) == 0) (v := .bool (x105 == ([] : Str))) rfl hc104 rfl) ?_
                  refine GA.take 8 rfl (by kernel_rfl) (by kernel_rfl) (by kernel_rfl) (fun _ _ _ h => by obtain ⟨_, _, _, h, _⟩ := h; cases h) trivial rfl (OV.move (v := .bool (x105 == ([] : Str))) rfl) ?_
                  rcases Bool.eq_false_or_eq_true (x105 == ([] : Str)) with hc107 | hc107
                  · replace h := And.left h hc107
                    refine GA.take 9 rfl (by kernel_rfl) (by kernel_rfl) (by kernel_rfl) (fun _ _ _ h => by obtain ⟨_, _, _, h, _⟩ := h; cases h) ⟨_, _, rfl, rfl, hc107⟩ rfl (OV.fieldAddr (p := (b1, 0)) rfl rfl) ?_
                    obtain ⟨x108, hr109, h⟩ := h
                    refine GA.take 10 rfl (by kernel_rfl) (by kernel_rfl) (by kernel_rfl) (fun _ _ _ h => by obtain ⟨_, _, _, h, _⟩ := h; cases h) ⟨_, _, rfl, rfl, hc107⟩ rfl (OV.load (p := ((b1, 0).1, (b1, 0).2 + 3)) rfl rfl hr109) ?_
                    refine GA.take 11 rfl (by kernel_rfl) (by kernel_rfl) (by kernel_rfl) (fun _ _ _ h => by obtain ⟨_, _, _, h, _⟩ := h; cases h) ⟨_, _, rfl, rfl, hc107⟩ rfl (OV.lenSl (s := x108) rfl rfl) ?_
                    refine GA.take 12 rfl (by kernel_rfl) (by kernel_rfl) (by kernel_rfl) (fun _ _ _ h => by obtain ⟨_, _, _, h, _⟩ := h; cases h) ⟨_, _, rfl, rfl, hc107⟩ rfl (OV.ibin (v := .bool (((Sl.len x108 : Int) : Int) != 1)) rfl rfl rfl) ?_
                    refine GA.take 13 rfl (by kernel_rfl) (by kernel_rfl) (by kernel_rfl) (fun _ _ _ h => by obtain ⟨_, _, _, h, _⟩ := h; cases h) trivial rfl (OV.pickT (b := x105 == ([] : Str)) (v := .bool (((Sl.len x108 : Int) : Int) != 1)) rfl hc107 rfl) ?_
                    refine GA.take 18 rfl (by kernel_rfl) (by kernel_rfl) (by kernel_rfl) (fun _ _ _ h => by obtain ⟨_, _, _, h, _⟩ := h; cases h) trivial rfl (OV.assign (v := .bool (((Sl.len x108 : Int) : Int) != 1)) rfl) ?_
                    refine GA.take 19 rfl (by kernel_rfl) (by kernel_rfl) (by kernel_rfl) (fun _ _ _ h => by obtain ⟨_, _, _, h, _⟩ := h; cases h) trivial rfl (OV.assign (v := .bool (decide (((Sl.len x102 : Int) : Int) ≤ 16))) rfl) ?_
                    refine GA.done (by kernel_rfl) ?_
                    exact GL.jump (fun _ _ h => h) ((((Sl.len x108 : Int) : Int) != 1), (decide (((Sl.len x102 : Int) : Int) ≤ 16))) h ⟨rfl, rfl, rfl, trivial⟩
                  · replace h := And.right h hc107
                    refine GA.skip 9 rfl (by kernel_rfl) (by kernel_rfl) (by kernel_rfl) (fun _ _ _ h => by obtain ⟨_, _, _, h, _⟩ := h; cases h) ⟨_, rfl, .inl ⟨_, rfl, hc107⟩⟩ rfl ?_
                    refine GA.skip 10 rfl (by kernel_rfl) (by kernel_rfl) (by kernel_rfl) (fun _ _ _ h => by obtain ⟨_, _, _, h, _⟩ := h; cases h) ⟨_, rfl, .inl ⟨_, rfl, hc107⟩⟩ rfl ?_
                    refine GA.skip 11 rfl (by kernel_rfl) (by kernel_rfl) (by kernel_rfl) (fun _ _ _ h => by obtain ⟨_, _, _, h, _⟩ := h; cases h) ⟨_, rfl, .inl ⟨_, rfl, hc107⟩⟩ rfl ?_
                    refine GA.skip 12 rfl (by kernel_rfl) (by kernel_rfl) (by kernel_rfl) (fun _ _ _ h => by obtain ⟨_, _, _, h, _⟩ := h; cases h) ⟨_, rfl, .inl ⟨_, rfl, hc107⟩⟩ rfl ?_
                    refine GA.take 13 rfl (by kernel_rfl) (by kernel_rfl) (by kernel_rfl) (fun _ _ _ h => by obtain ⟨_, _, _, h, _⟩ := h; cases h) trivial rfl (OV.pickF (b := x105 == ([] : Str)) (v := .bool false) rfl hc107 rfl) ?_
                    refine GA.take 18 rfl (by kernel_rfl) (by kernel_rfl) (by kernel_rfl) (fun _ _ _ h => by obtain ⟨_, _, _, h, _⟩ := h; cases h) trivial rfl (OV.assign (v := .bool false) rfl) ?_
                    refine GA.take 19 rfl (by kernel_rfl) (by kernel_rfl) (by kernel_rfl) (fun _ _ _ h => by obtain ⟨_, _, _, h, _⟩ := h; cases h) trivial rfl (OV.assign (v := .bool (decide (((Sl.len x102 : Int) : Int) ≤ 16))) rfl) ?_
                    refine GA.done (by kernel_rfl) ?_
                    exact GL.jump (fun _ _ h => h) (false, (decide (((Sl.len x102 : Int) : Int) ≤ 16))) h ⟨rfl, rfl, rfl, trivial⟩
                · replace h := And.right h hc104
                  refine GA.skip 4 rfl (by kernel_rfl) (by kernel_rfl) (by kernel_rfl) (fun _ _ _ h => by obtain ⟨_, _, _, h, _⟩ := h; cases h) ⟨_, rfl, .inl ⟨_, rfl, hc104⟩⟩ rfl ?_
                  refine GA.skip 5 rfl (by kernel_rfl) (by kernel_rfl) (by kernel_rfl) (fun _ _ _ h => by obtain ⟨_, _, _, h, _⟩ := h; cases h) ⟨_, rfl, .inl ⟨_, rfl, hc104⟩⟩ rfl ?_
                  refine GA.skip 6 rfl (by kernel_rfl) (by kernel_rfl) (by kernel_rfl) (fun _ _ _ h => by obtain ⟨_, _, _, h, _⟩ := h; cases h) ⟨_, rfl, .inl ⟨_, rfl, hc104⟩⟩ rfl ?_
                  refine GA.take 7 rfl (by kernel_rfl) (by kernel_rfl) (by kernel_rfl) (fun _ _ _ h => by obtain ⟨_, _, _, h, _⟩ := h; cases h) trivial rfl (OV.pickF (b := (x100 : Int) == 0) (v := .bool false) rfl hc104 rfl) ?_
                  refine GA.take 8 rfl (by kernel_rfl) (by kernel_rfl) (by kernel_rfl) (fun _ _ _ h => by obtain ⟨_, _, _, h, _⟩ := h; cases h) trivial rfl (OV.move (v := .bool false) rfl) ?_
                  refine GA.skip 9 rfl (by kernel_rfl) (by kernel_rfl) (by kernel_rfl) (fun _ _ _ h => by obtain ⟨_, _, _, h, _⟩ := h; cases h) ⟨_, rfl, .inl ⟨_, rfl, rfl⟩⟩ rfl ?_
                  refine GA.skip 10 rfl (by kernel_rfl) (by kernel_rfl) (by kernel_rfl) (fun _ _ _ h => by obtain ⟨_, _, _, h, _⟩ := h; cases h) ⟨_, rfl, .inl ⟨_, rfl, rfl⟩⟩ rfl ?_
                  refine GA.skip 11 rfl (by kernel_rfl) (by kernel_rfl) (by kernel_rfl) (fun _ _ _ h => by obtain ⟨_, _, _, h, _⟩ := h; cases h) ⟨_, rfl, .inl ⟨_, rfl, rfl⟩⟩ rfl ?_
                  refine GA.skip 12 rfl (by kernel_rfl) (by kernel_rfl) (by kernel_rfl) (fun _ _ _ h => by obtain ⟨_, _, _, h, _⟩ := h; cases h) ⟨_, rfl, .inl ⟨_, rfl, rfl⟩⟩ rfl ?_
                  refine GA.take 13 rfl (by kernel_rfl) (by kernel_rfl) (by kernel_rfl) (fun _ _ _ h => by obtain ⟨_, _, _, h, _⟩ := h; cases h) trivial rfl (OV.pickF (b := false) (v := .bool false) rfl rfl rfl) ?_
                  refine GA.take 18 rfl (by kernel_rfl) (by kernel_rfl) (by kernel_rfl) (fun _ _ _ h => by obtain ⟨_, _, _, h, _⟩ := h; cases h) trivial rfl (OV.assign (v := .bool false) rfl) ?_
                  refine GA.take 19 rfl (by kernel_rfl) (by kernel_rfl) (by kernel_rfl) (fun _ _ _ h => by obtain ⟨_, _, _, h, _⟩ := h; cases h) trivial rfl (OV.assign (v := .bool (decide (((Sl.len x102 : Int) : Int) ≤ 16))) rfl) ?_
                  refine GA.done (by kernel_rfl) ?_
                  exact GL.jump (fun _ _ h => h) (false, (decide (((Sl.len x102 : Int) : Int) ≤ 16))) h ⟨rfl, rfl, rfl, trivial⟩
              · intro x95 H96 h
                replace h := hR97 x95 H96 h
                exact GL.jump (fun _ _ h => h) (x95.1, x95.2) h ⟨rfl, rfl, rfl, trivial⟩
            · replace h := And.right h hc93
              refine GC.seq ?_
              refine GC.region ?_
              refine GL.val trivial rfl (OV.ibin (v := .bool ((x23 : Int) == 6)) rfl rfl rfl) ?_
              refine GL.val trivial rfl (OV.assign (v := .bool ((x23 : Int) == 6)) rfl) ?_
              refine GL.nil ?_
              refine GC.cond (b := (x23 : Int) == 6) rfl (fun hc110 => ?_) (fun hc110 => ?_)
              · replace h := And.left h hc110
                refine GC.seq ?_
                refine GC.region ?_
                refine GL.val trivial rfl (OV.fieldAddr (p := (b1, 0)) rfl rfl) ?_
                obtain ⟨x111, hr112, h⟩ := h
                refine GL.val trivial rfl (OV.load (p := ((b1, 0).1, (b1, 0).2 + 2)) rfl rfl hr112) ?_
                refine GL.call h trivial rfl ok_strings_Cut (vs := [sv x111, sv [46]]) rfl ?_
                rintro _ H116 ⟨r113, r114, r115, rfl, h⟩
                refine GL.val trivial rfl (OV.move (v := .tuple #[sv r113, sv r114, .bool r115]) rfl) ?_
                refine GL.val trivial rfl (OV.extract (v := sv r113) rfl rfl) ?_
                refine GL.val trivial rfl (OV.extract (v := sv r114) rfl rfl) ?_
                refine GL.val trivial rfl (OV.extract (v := .bool r115) rfl rfl) ?_
                refine GL.val trivial rfl (OV.assign (v := sv r113) rfl) ?_
                refine GL.val trivial rfl (OV.assign (v := sv r114) rfl) ?_
                refine GL.val trivial rfl (OV.assign (v := .bool r115) rfl) ?_
                refine GL.nil ?_
                obtain ⟨J117, h, hR120⟩ := h
                refine GC.meet (α := Bool × Bool) J117 (fun x118 => [(2, .bool x118.1), (3, .bool x118.2), (1, pv (some (b1, 0)))]) ?_ ?_
                · skip
                  obtain ⟨Hs121, hle122, h⟩ := h
                  refine GC.any (Hs := Hs121) (by kernel_rfl) hle122 ?_
                  refine GA.take 0 rfl (by kernel_rfl) (by kernel_rfl) (by kernel_rfl) (fun _ _ _ h => by obtain ⟨_, _, _, h, _⟩ := h; cases h) trivial rfl (OV.fieldAddr (p := (b1, 0)) rfl rfl) ?_
                  obtain ⟨x123, hr124, h⟩ := h
                  refine GA.take 1 rfl (by kernel_rfl) (by kernel_rfl) (by kernel_rfl) (fun _ _ _ h => by obtain ⟨_, _, _, h, _⟩ := h; cases h) trivial rfl (OV.load (p := ((b1, 0).1, (b1, 0).2 + 1)) rfl rfl hr124) ?_
                  refine GA.take 2 rfl (by kernel_rfl) (by kernel_rfl) (by kernel_rfl) (fun _ _ _ h => by obtain ⟨_, _, _, h, _⟩ := h; cases h) trivial rfl (OV.ibin (v := .bool ((x123 : Int) == 0)) rfl rfl rfl) ?_
                  refine GA.take 3 rfl (by kernel_rfl) (by kernel_rfl) (by kernel_rfl) (fun _ _ _ h => by obtain ⟨_, _, _, h, _⟩ := h; cases h) trivial rfl (OV.move (v := .bool ((x123 : Int) == 0)) rfl) ?_
                  refine GA.take 28 rfl (by kernel_rfl) (by kernel_rfl) (by kernel_rfl) (fun _ _ _ h => by obtain ⟨_, _, _, h, _⟩ := h; cases h) trivial rfl (OV.fieldAddr (p := (b1, 0)) rfl rfl) ?_
                  obtain ⟨x125, hr126, h⟩ := h
                  refine GA.take 29 rfl (by kernel_rfl) (by kernel_rfl) (by kernel_rfl) (fun _ _ _ h => by obtain ⟨_, _, _, h, _⟩ := h; cases h) trivial rfl (OV.load (p := ((b1, 0).1, (b1, 0).2 + 3)) rfl rfl hr126) ?_
                  refine GA.take 30 rfl (by kernel_rfl) (by kernel_rfl) (by kernel_rfl) (fun _ _ _ h => by obtain ⟨_, _, _, h, _⟩ := h; cases h) trivial rfl (OV.lenSl (s := x125) rfl rfl) ?_
                  refine GA.take 31 rfl (by kernel_rfl) (by kernel_rfl) (by kernel_rfl) (fun _ _ _ h => by obtain ⟨_, _, _, h, _⟩ := h; cases h) trivial rfl (OV.ibin (v := .bool (decide (((Sl.len x125 : Int) : Int) ≤ 8))) rfl rfl rfl) ?_
                  rcases Bool.eq_false_or_eq_true ((x123 : Int) == 0) with hc127 | hc127
                  · replace h := And.left h hc127
                    refine GA.take 4 rfl (by kernel_rfl) (by kernel_rfl) (by kernel_rfl) (fun _ _ _ h => by obtain ⟨_, _, _, h, _⟩ := h; cases h) ⟨_, _, rfl, rfl, hc127⟩ rfl (OV.move (v := sv r113) rfl) ?_
                    refine GA.eff 5 rfl (by kernel_rfl) ?_
                    refine GL.call h ⟨_, _, rfl, rfl, hc127⟩ rfl ok_value_name (vs := [sv r113]) rfl ?_
                    rintro _ H130 ⟨r129, rfl, h⟩
                    obtain ⟨hle128, h⟩ := h
                    refine GA.back hle128 ?_
                    refine GA.take 6 rfl (by kernel_rfl) (by kernel_rfl) (by kernel_rfl) (fun _ _ _ h => by obtain ⟨_, _, _, h, _⟩ := h; cases h) trivial rfl (OV.pickT (b := (x123 : Int) == 0) (v := .bool r129) rfl hc127 rfl) ?_
                    refine GA.take 7 rfl (by kernel_rfl) (by kernel_rfl) (by kernel_rfl) (fun _ _ _ h => by obtain ⟨_, _, _, h, _⟩ := h; cases h) trivial rfl (OV.move (v := .bool r129) rfl) ?_
                    rcases Bool.eq_false_or_eq_true r129 with hc131 | hc131
                    · replace h := And.left h hc131
                      refine GA.take 8 rfl (by kernel_rfl) (by kernel_rfl) (by kernel_rfl) (fun _ _ _ h => by obtain ⟨_, _, _, h, _⟩ := h; cases h) ⟨_, _, rfl, rfl, hc131⟩ rfl (OV.move (v := .bool r115) rfl) ?_
                      refine GA.take 9 rfl (by kernel_rfl) (by kernel_rfl) (by kernel_rfl) (fun _ _ _ h => by obtain ⟨_, _, _, h, _⟩ := h; cases h) ⟨_, _, rfl, rfl, hc131⟩ rfl (OV.move (v := .bool r115) rfl) ?_
                      rcases Bool.eq_false_or_eq_true r115 with hc132 | hc132
                      · replace h := And.left h hc132
                        refine GA.take 10 rfl (by kernel_rfl) (by kernel_rfl) (by kernel_rfl) (fun _ _ _ h => by obtain ⟨_, _, _, h, _⟩ := h; cases h) ⟨_, _, rfl, rfl, hc132⟩ rfl (OV.move (v := sv r114) rfl) ?_
                        refine GA.eff 11 rfl (by kernel_rfl) ?_
                        refine GL.call h ⟨_, _, rfl, rfl, hc132⟩ rfl ok_value_name (vs := [sv r114]) rfl ?_
                        rintro _ H135 ⟨r134, rfl, h⟩
                        obtain ⟨hle133, h⟩ := h
                        refine GA.back hle133 ?_
                        refine GA.take 12 rfl (by kernel_rfl) (by kernel_rfl) (by kernel_rfl) (fun _ _ _ h => by obtain ⟨_, _, _, h, _⟩ := h; cases h) ⟨_, _, rfl, rfl, hc131⟩ rfl (OV.pickT (b := r115) (v := .bool r134) rfl hc132 rfl) ?_
                        refine GA.take 13 rfl (by kernel_rfl) (by kernel_rfl) (by kernel_rfl) (fun _ _ _ h => by obtain ⟨_, _, _, h, _⟩ := h; cases h) ⟨_, _, rfl, rfl, hc131⟩ rfl (OV.move (v := .bool r134) rfl) ?_
                        rcases Bool.eq_false_or_eq_true r134 with hc136 | hc136
                        · replace h := And.left h hc136
                          refine GA.skip 14 rfl (by kernel_rfl) (by kernel_rfl) (by kernel_rfl) (fun _ _ _ h => by obtain ⟨_, _, _, h, _⟩ := h; cases h) ⟨_, rfl, .inl ⟨_, rfl, hc136⟩⟩ rfl ?_
                          refine GA.skip 15 rfl (by kernel_rfl) (by kernel_rfl) (by kernel_rfl) (fun _ _ _ h => by obtain ⟨_, _, _, h, _⟩ := h; cases h) ⟨_, rfl, .inl ⟨_, rfl, hc136⟩⟩ rfl ?_
                          refine GA.skip 16 rfl (by kernel_rfl) (by kernel_rfl) (by kernel_rfl) (fun _ _ _ h => by obtain ⟨_, _, _, h, _⟩ := h; cases h) ⟨_, rfl, .inl ⟨_, rfl, hc136⟩⟩ rfl ?_
                          refine GA.skip 17 rfl (by kernel_rfl) (by kernel_rfl) (by kernel_rfl) (fun _ _ _ h => by obtain ⟨_, _, _, h, _⟩ := h; cases h) ⟨_, rfl, .inr rfl⟩ rfl ?_
                          refine GA.skip 18 rfl (by kernel_rfl) (by kernel_rfl) (by kernel_rfl) (fun _ _ _ h => by obtain ⟨_, _, _, h, _⟩ := h; cases h) ⟨_, rfl, .inr rfl⟩ rfl ?_
                          refine GA.skip 19 rfl (by kernel_rfl) (by kernel_rfl) (by kernel_rfl) (fun _ _ _ h => by obtain ⟨_, _, _, h, _⟩ := h; cases h) ⟨_, rfl, .inr rfl⟩ rfl ?_
                          refine GA.skip 20 rfl (by kernel_rfl) (by kernel_rfl) (by kernel_rfl) (fun _ _ _ h => by obtain ⟨_, _, _, h, _⟩ := h; cases h) ⟨_, rfl, .inl ⟨_, rfl, hc136⟩⟩ rfl ?_
                          refine GA.skip 21 rfl (by kernel_rfl) (by kernel_rfl) (by kernel_rfl) (fun _ _ _ h => by obtain ⟨_, _, _, h, _⟩ := h; cases h) ⟨_, rfl, .inl ⟨_, rfl, hc136⟩⟩ rfl ?_
                          refine GA.skip 22 rfl (by kernel_rfl) (by kernel_rfl) (by kernel_rfl) (fun _ _ _ h => by obtain ⟨_, _, _, h, _⟩ := h; cases h) ⟨_, rfl, .inr rfl⟩ rfl ?_
                          refine GA.skip 23 rfl (by kernel_rfl) (by kernel_rfl) (by kernel_rfl) (fun _ _ _ h => by obtain ⟨_, _, _, h, _⟩ := h; cases h) ⟨_, rfl, .inr rfl⟩ rfl ?_
                          refine GA.skip 24 rfl (by kernel_rfl) (by kernel_rfl) (by kernel_rfl) (fun _ _ _ h => by obtain ⟨_, _, _, h, _⟩ := h; cases h) ⟨_, rfl, .inr rfl⟩ rfl ?_
                          refine GA.skip 25 rfl (by kernel_rfl) (by kernel_rfl) (by kernel_rfl) (fun _ _ _ h => by obtain ⟨_, _, _, h, _⟩ := h; cases h) ⟨_, rfl, .inl ⟨_, rfl, hc136⟩⟩ rfl ?_
                          refine GA.take 26 rfl (by kernel_rfl) (by kernel_rfl) (by kernel_rfl) (fun _ _ _ h => by obtain ⟨_, _, _, h, _⟩ := h; cases h) ⟨_, _, rfl, rfl, hc131⟩ rfl (OV.pickT (b := r134) (v := .bool true) rfl hc136 rfl) ?_
                          refine GA.take 27 rfl (by kernel_rfl) (by kernel_rfl) (by kernel_rfl) (fun _ _ _ h => by obtain ⟨_, _, _, h, _⟩ := h; cases h) trivial rfl (OV.pickT (b := r129) (v := .bool true) rfl hc131 rfl) ?_
                          refine GA.take 32 rfl (by kernel_rfl) (by kernel_rfl) (by kernel_rfl) (fun _ _ _ h => by obtain ⟨_, _, _, h, _⟩ := h; cases h) trivial rfl (OV.assign (v := .bool true) rfl) ?_
                          refine GA.take 33 rfl (by kernel_rfl) (by kernel_rfl) (by kernel_rfl) (fun _ _ _ h => by obtain ⟨_, _, _, h, _⟩ := h; cases h) trivial rfl (OV.assign (v := .bool (decide (((Sl.len x125 : Int) : Int) ≤ 8))) rfl) ?_
                          refine GA.done (by kernel_rfl) ?_
                          exact GL.jump (fun _ _ h => h) (true, (decide (((Sl.len x125 : Int) : Int) ≤ 8))) h ⟨rfl, rfl, rfl, trivial⟩
                        · replace h := And.right h hc136
                          refine GA.take 14 rfl (by kernel_rfl) (by kernel_rfl) (by kernel_rfl) (fun _ _ _ h => by obtain ⟨_, _, _, h, _⟩ := h; cases h) ⟨_, _, rfl, rfl, hc136⟩ rfl (OV.move (v := .bool r115) rfl) ?_
                          refine GA.take 15 rfl (by kernel_rfl) (by kernel_rfl) (by kernel_rfl) (fun _ _ _ h => by obtain ⟨_, _, _, h, _⟩ := h; cases h) ⟨_, _, rfl, rfl, hc136⟩ rfl (OV.not rfl) ?_
                          refine GA.take 16 rfl (by kernel_rfl) (by kernel_rfl) (by kernel_rfl) (fun _ _ _ h => by obtain ⟨_, _, _, h, _⟩ := h; cases h) ⟨_, _, rfl, rfl, hc136⟩ rfl (OV.move (v := .bool (!r115)) rfl) ?_
                          rcases Bool.eq_false_or_eq_true (!r115) with hc137 | hc137
                          · replace h := And.left h hc137
                            refine GA.take 17 rfl (by kernel_rfl) (by kernel_rfl) (by kernel_rfl) (fun _ _ _ h => by obtain ⟨_, _, _, h, _⟩ := h; cases h) ⟨_, _, rfl, rfl, hc137⟩ rfl (OV.fieldAddr (p := (b1, 0)) rfl rfl) ?_
                            obtain ⟨x138, hr139, h⟩ := h
                            refine GA.take 18 rfl (by kernel_rfl) (by kernel_rfl) (by kernel_rfl) (fun _ _ _ h => by obtain ⟨_, _, _, h, _⟩ := h; cases h) ⟨_, _, rfl, rfl, hc137⟩ rfl (OV.load (p := ((b1, 0).1, (b1, 0).2 + 2)) rfl rfl hr139) ?_
                            refine GA.take 19 rfl (by kernel_rfl) (by kernel_rfl) (by kernel_rfl) (fun _ _ _ h => by obtain ⟨_, _, _, h, _⟩ := h; cases h) ⟨_, _, rfl, rfl, hc137⟩ rfl (OV.sbin (a := x138) (b := ([116, 114, 117, 101] : Str)) (v := .bool (!(x138 == ([116, 114, 117, 101] : Str)))) rfl rfl rfl) ?_
                            refine GA.take 20 rfl (by kernel_rfl) (by kernel_rfl) (by kernel_rfl) (fun _ _ _ h => by obtain ⟨_, _, _, h, _⟩ := h; cases h) ⟨_, _, rfl, rfl, hc136⟩ rfl (OV.pickT (b := !r115) (v := .bool (!(x138 == ([116, 114, 117, 101] : Str)))) rfl hc137 rfl) ?_
                            refine GA.take 21 rfl (by kernel_rfl) (by kernel_rfl) (by kernel_rfl) (fun _ _ _ h => by obtain ⟨_, _, _, h, _⟩ := h; cases h) ⟨_, _, rfl, rfl, hc136⟩ rfl (OV.move (v := .bool (!(x138 == ([116, 114, 117, 101] : Str)))) rfl) ?_
                            rcases Bool.eq_false_or_eq_true (!(x138 == ([116, 114, 117, 101] : Str))) with hc140 | hc140
                            · replace h := And.left h hc140
                              refine GA.take 22 rfl (by kernel_rfl) (by kernel_rfl) (by kernel_rfl) (fun _ _ _ h => by obtain ⟨_, _, _, h, _⟩ := h; cases h) ⟨_, _, rfl, rfl, hc140⟩ rfl (OV.fieldAddr (p := (b1, 0)) rfl rfl) ?_
                              obtain ⟨x141, hr142, h⟩ := h
                              refine GA.take 23 rfl (by kernel_rfl) (by kernel_rfl) (by kernel_rfl) (fun _ _ _ h => by obtain ⟨_, _, _, h, _⟩ := h; cases h) ⟨_, _, rfl, rfl, hc140⟩ rfl (OV.load (p := ((b1, 0).1, (b1, 0).2 + 2)) rfl rfl hr142) ?_
                              refine GA.take 24 rfl (by kernel_rfl) (by kernel_rfl) (by kernel_rfl) (fun _ _ _ h => by obtain ⟨_, _, _, h, _⟩ := h; cases h) ⟨_, _, rfl, rfl, hc140⟩ rfl (OV.sbin (a := x141) (b := ([102, 97, 108, 115, 101] : Str)) (v := .bool (!(x141 == ([102, 97, 108, 115, 101] : Str)))) rfl rfl rfl) ?_
                              refine GA.take 25 rfl (by kernel_rfl) (by kernel_rfl) (by kernel_rfl) (fun _ _ _ h => by obtain ⟨_, _, _, h, _⟩ := h; cases h) ⟨_, _, rfl, rfl, hc136⟩ rfl (OV.pickT (b := !(x138 == ([116, 114, 117, 101] : Str))) (v := .bool (!(x141 == ([102, 97, 108, 115, 101] : Str)))) rfl hc140 rfl) ?_
                              refine GA.take 26 rfl (by kernel_rfl) (by kernel_rfl) (by kernel_rfl) (fun _ _ _ h => by obtain ⟨_, _, _, h, _⟩ := h; cases h) ⟨_, _, rfl, rfl, hc131⟩ rfl (OV.pickF (b := r134) (v := .bool (!(x141 == ([102, 97, 108, 115, 101] : Str)))) rfl hc136 rfl) ?_
                              refine GA.take 27 rfl (by kernel_rfl) (by kernel_rfl) (by kernel_rfl) (fun _ _ _ h => by obtain ⟨_, _, _, h, _⟩ := h; cases h) trivial rfl (OV.pickT (b := r129) (v := .bool (!(x141 == ([102, 97, 108, 115, 101] : Str)))) rfl hc131 rfl) ?_
                              refine GA.take 32 rfl (by kernel_rfl) (by kernel_rfl) (by kernel_rfl) (fun _ _ _ h => by obtain ⟨_, _, _, h, _⟩ := h; cases h) trivial rfl (OV.assign (v := .bool (!(x141 == ([102, 97, 108, 115, 101] : Str)))) rfl) ?_
                              refine GA.take 33 rfl (by kernel_rfl) (by kernel_rfl) (by kernel_rfl) (fun _ _ _ h => by obtain ⟨_, _, _, h, _⟩ := h; cases h) trivial rfl (OV.assign (v := .bool (decide (((Sl.len x125 : Int) : Int) ≤ 8))) rfl) ?_
                              refine GA.done (by kernel_rfl) ?_
                              exact GL.jump (fun _ _ h => h) ((!(x141 == ([102, 97, 108, 115, 101] : Str))), (decide (((Sl.len x125 : Int) : Int) ≤ 8))) h ⟨rfl, rfl, rfl, trivial⟩
                            · replace h := And.right h hc140
                              refine GA.skip 22 rfl (by kernel_rfl) (by kernel_rfl) (by kernel_rfl) (fun _ _ _ h => by obtain ⟨_, _, _, h, _⟩ := h; cases h) ⟨_, rfl, .inl ⟨_, rfl, hc140⟩⟩ rfl ?_
                              refine GA.skip 23 rfl (by kernel_rfl) (by kernel_rfl) (by kernel_rfl) (fun _ _ _ h => by obtain ⟨_, _, _, h, _⟩ := h; cases h) ⟨_, rfl, .inl ⟨_, rfl, hc140⟩⟩ rfl ?_
                              refine GA.skip 24 rfl (by kernel_rfl) (by kernel_rfl) (by kernel_rfl) (fun _ _ _ h => by obtain ⟨_, _, _, h, _⟩ := h; cases h) ⟨_, rfl, .inl ⟨_, rfl, hc140⟩⟩ rfl ?_
                              refine GA.take 25 rfl (by kernel_rfl) (by kernel_rfl) (by kernel_rfl) (fun _ _ _ h => by obtain ⟨_, _, _, h, _⟩ := h; cases h) ⟨_, _, rfl, rfl, hc136⟩ rfl (OV.pickF (b := !(x138 == ([116, 114, 117, 101] : Str))) (v := .bool false) rfl hc140 rfl) ?_
                              refine GA.take 26 rfl (by kernel_rfl) (by kernel_rfl) (by kernel_rfl) (fun _ _ _ h => by obtain ⟨_, _, _, h, _⟩ := h; cases h) ⟨_, _, rfl, rfl, hc131⟩ rfl (OV.pickF (b := r134) (v := .bool false) rfl hc136 rfl) ?_
                              refine GA.take 27 rfl (by kernel_rfl) (by kernel_rfl) (by kernel_rfl) (fun _ _ _ h => by obtain ⟨_, _, _, h, _⟩ := h; cases h) trivial rfl (OV.pickT (b := r129) (v := .bool false) rfl hc131 rfl) ?_
                              refine GA.take 32 rfl (by kernel_rfl) (by kernel_rfl) (by kernel_rfl) (fun _ _ _ h => by obtain ⟨_, _, _, h, _⟩ := h; cases h) trivial rfl (OV.assign (v := .bool false) rfl) ?_
                              refine GA.take 33 rfl (by kernel_rfl) (by kernel_rfl) (by kernel_rfl) (fun _ _ _ h => by obtain ⟨_, _, _, h, _⟩ := h; cases h) trivial rfl (OV.assign (v := .bool (decide (((Sl.len x125 : Int) : Int) ≤ 8))) rfl) ?_
                              refine GA.done (by kernel_rfl) ?_
                              exact GL.jump (fun _ _ h => h) (false, (decide (((Sl.len x125 : Int) : Int) ≤ 8))) h ⟨rfl, rfl, rfl, trivial⟩
                          · replace h := And.right h hc137
                            refine GA.skip 17 rfl (by kernel_rfl) (by kernel_rfl) (by kernel_rfl) (fun _ _ _ h => by obtain ⟨_, _, _, h, _⟩ := h; cases h) ⟨_, rfl, .inl ⟨_, rfl, hc137⟩⟩ rfl ?_
                            refine GA.skip 18 rfl (by kernel_rfl) (by kernel_rfl) (by kernel_rfl) (fun _ _ _ h => by obtain ⟨_, _, _, h, _⟩ := h; cases h) ⟨_, rfl, .inl ⟨_, rfl, hc137⟩⟩ rfl ?_
                            refine GA.skip 19 rfl (by kernel_rfl) (by kernel_rfl) (by kernel_rfl) (fun _ _ _ h => by obtain ⟨_, _, _, h, _⟩ := h; cases h) ⟨_, rfl, .inl ⟨_, rfl, hc137⟩⟩ rfl ?_
                            refine GA.take 20 rfl (by kernel_rfl) (by kernel_rfl) (by kernel_rfl) (fun _ _ _ h => by obtain ⟨_, _, _, h, _⟩ := h; cases h) ⟨_, _, rfl, rfl, hc136⟩ rfl (OV.pickF (b := !r115) (v := .bool false) rfl hc137 rfl) ?_
                            refine GA.take 21 rfl (by kernel_rfl) (by kernel_rfl) (by kernel_rfl) (fun _ _ _ h => by obtain ⟨_, _, _, h, _⟩ := h; cases h) ⟨_, _, rfl, rfl, hc136⟩ rfl (OV.move (v := .bool false) rfl) ?_
                            refine GA.skip 22 rfl (by kernel_rfl) (by kernel_rfl) (by kernel_rfl) (fun _ _ _ h => by obtain ⟨_, _, _, h, _⟩ := h; cases h) ⟨_, rfl, .inl ⟨_, rfl, rfl⟩⟩ rfl ?_
                            refine GA.skip 23 rfl (by kernel_rfl) (by kernel_rfl) (by kernel_rfl) (fun _ _ _ h => by obtain ⟨_, _, _, h, _⟩ := h; cases h) ⟨_, rfl, .inl ⟨_, rfl, rfl⟩⟩ rfl ?_
                            refine GA.skip 24 rfl (by kernel_rfl) (by kernel_rfl) (by kernel_rfl) (fun _ _ _ h => by obtain ⟨_, _, _, h, _⟩ := h; cases h) ⟨_, rfl, .inl ⟨_, rfl, rfl⟩⟩ rfl ?_
                            refine GA.take 25 rfl (by kernel_rfl) (by kernel_rfl) (by kernel_rfl) (fun _ _ _ h => by obtain ⟨_, _, _, h, _⟩ := h; cases h) ⟨_, _, rfl, rfl, hc136⟩ rfl (OV.pickF (b := false) (v := .bool false) rfl rfl rfl) ?_
                            refine GA.take 26 rfl (by kernel_rfl) (by kernel_rfl) (by kernel_rfl) (fun _ _ _ h => by obtain ⟨_, _, _, h, _⟩ := h; cases h) ⟨_, _, rfl, rfl, hc131⟩ rfl (OV.pickF (b := r134) (v := .bool false) rfl hc136 rfl) ?_
                            refine GA.take 27 rfl (by kernel_rfl) (by kernel_rfl) (by kernel_rfl) (fun _ _ _ h => by obtain ⟨_, _, _, h, _⟩ := h; cases h) trivial rfl (OV.pickT (b := r129) (v := .bool false) rfl hc131 rfl) ?_
                            refine GA.take 32 rfl (by kernel_rfl) (by kernel_rfl) (by kernel_rfl) (fun _ _ _ h => by obtain ⟨_, _, _, h, _⟩ := h; cases h) trivial rfl (OV.assign (v := .bool false) rfl) ?_
                            refine GA.take 33 rfl (by kernel_rfl) (by kernel_rfl) (by kernel_rfl) (fun _ _ _ h => by obtain ⟨_, _, _, h, _⟩ := h; cases h) trivial rfl (OV.assign (v := .bool (decide (((Sl.len x125 : Int) : Int) ≤ 8))) rfl) ?_
                            refine GA.done (by kernel_rfl) ?_
                            exact GL.jump (fun _ _ h => h) (false, (decide (((Sl.len x125 : Int) : Int) ≤ 8))) h ⟨rfl, rfl, rfl, trivial⟩
                      · replace h := And.right h hc132
                        refine GA.skip 10 rfl (by kernel_rfl) (by kernel_rfl) (by kernel_rfl) (fun _ _ _ h => by obtain ⟨_, _, _, h, _⟩ := h; cases h) ⟨_, rfl, .inl ⟨_, rfl, hc132⟩⟩ rfl ?_
                        refine GA.skip 11 rfl (by kernel_rfl) (by kernel_rfl) (by kernel_rfl) (fun _ _ _ h => by obtain ⟨_, _, _, h, _⟩ := h; cases h) ⟨_, rfl, .inl ⟨_, rfl, hc132⟩⟩ rfl ?_
                        refine GA.take 12 rfl (by kernel_rfl) (by kernel_rfl) (by kernel_rfl) (fun _ _ _ h => by obtain ⟨_, _, _, h, _⟩ := h; cases h) ⟨_, _, rfl, rfl, hc131⟩ rfl (OV.pickF (b := r115) (v := .bool false) rfl hc132 rfl) ?_
                        refine GA.take 13 rfl (by kernel_rfl) (by kernel_rfl) (by kernel_rfl) (fun _ _ _ h => by obtain ⟨_, _, _, h, _⟩ := h; cases h) ⟨_, _, rfl, rfl, hc131⟩ rfl (OV.move (v := .bool false) rfl) ?_
                        refine GA.take 14 rfl (by kernel_rfl) (by kernel_rfl) (by kernel_rfl) (fun _ _ _ h => by obtain ⟨_, _, _, h, _⟩ := h; cases h) ⟨_, _, rfl, rfl, rfl⟩ rfl (OV.move (v := .bool r115) rfl) ?_
                        refine GA.take 15 rfl (by kernel_rfl) (by kernel_rfl) (by kernel_rfl) (fun _ _ _ h => by obtain ⟨_, _, _, h, _⟩ := h; cases h) ⟨_, _, rfl, rfl, rfl⟩ rfl (OV.not rfl) ?_
                        refine GA.take 16 rfl (by kernel_rfl) (by kernel_rfl) (by kernel_rfl) (fun _ _ _ h => by obtain ⟨_, _, _, h, _⟩ := h; cases h) ⟨_, _, rfl, rfl, rfl⟩ rfl (OV.move (v := .bool (!r115)) rfl) ?_
                        rcases Bool.eq_false_or_eq_true (!r115) with hc143 | hc143
                        · replace h := And.left h hc143
                          refine GA.take 17 rfl (by kernel_rfl) (by kernel_rfl) (by kernel_rfl) (fun _ _ _ h => by obtain ⟨_, _, _, h, _⟩ := h; cases h) ⟨_, _, rfl, rfl, hc143⟩ rfl (OV.fieldAddr (p := (b1, 0)) rfl rfl) ?_
                          obtain ⟨x144, hr145, h⟩ := h
                          refine GA.take 18 rfl (by kernel_rfl) (by kernel_rfl) (by kernel_rfl) (fun _ _ _ h => by obtain ⟨_, _, _, h, _⟩ := h; cases h) ⟨_, _, rfl, rfl, hc143⟩ rfl (OV.load (p := ((b1, 0).1, (b1, 0).2 + 2)) rfl rfl hr145) ?_
                          refine GA.take 19 rfl (by kernel_rfl) (by kernel_rfl) (by kernel_rfl) (fun _ _ _ h => by obtain ⟨_, _, _, h, _⟩ := h; cases h) ⟨_, _, rfl, rfl, hc143⟩ rfl (OV.sbin (a := x144) (b := ([116, 114, 117, 101] : Str)) (v := .bool (!(x144 == ([116, 114, 117, 101] : Str)))) rfl rfl rfl) ?_
                          refine GA.take 20 rfl (by kernel_rfl) (by kernel_rfl) (by kernel_rfl) (fun _ _ _ h => by obtain ⟨_, _, _, h, _⟩ := h; cases h) ⟨_, _, rfl, rfl, rfl⟩ rfl (OV.pickT (b := !r115) (v := .bool (!(x144 == ([116, 114, 117, 101] : Str)))) rfl hc143 rfl) ?_
                          refine GA.take 21 rfl (by kernel_rfl) (by kernel_rfl) (by kernel_rfl) (fun _ _ _ h => by obtain ⟨_, _, _, h, _⟩ := h; cases h) ⟨_, _, rfl, rfl, rfl⟩ rfl (OV.move (v := .bool (!(x144 == ([116, 114, 117, 101] : Str)))) rfl) ?_
                          rcases Bool.eq_false_or_eq_true (!(x144 == ([116, 114, 117, 101] : Str))) with hc146 | hc146
                          · replace h := And.left h hc146
                            refine GA.take 22 rfl (by kernel_rfl) (by kernel_rfl) (by kernel_rfl) (fun _ _ _ h => by obtain ⟨_, _, _, h, _⟩ := h; cases h) ⟨_, _, rfl, rfl, hc146⟩ rfl (OV.fieldAddr (p := (b1, 0)) rfl rfl) ?_
                            obtain ⟨x147, hr148, h⟩ := h
                            refine GA.take 23 rfl (by kernel_rfl) (by kernel_rfl) (by kernel_rfl) (fun _ _ _ h => by obtain ⟨_, _, _, h, _⟩ := h; cases h) ⟨_, _, rfl, rfl, hc146⟩ rfl (OV.load (p := ((b1, 0).1, (b1, 0).2 + 2)) rfl rfl hr148) ?_
                            refine GA.take 24 rfl (by kernel_rfl) (by kernel_rfl) (by kernel_rfl) (fun _ _ _ h => by obtain ⟨_, _, _, h, _⟩ := h; cases h) ⟨_, _, rfl, rfl, hc146⟩ rfl (OV.sbin (a := x147) (b := ([102, 97, 108, 115, 101] : Str)) (v := .bool (!(x147 == ([102, 97, 108, 115, 101] : Str)))) rfl rfl rfl) ?_
                            refine GA.take 25 rfl (by kernel_rfl) (by kernel_rfl) (by kernel_rfl) (fun _ _ _ h => by obtain ⟨_, _, _, h, _⟩ := h; cases h) ⟨_, _, rfl, rfl, rfl⟩ rfl (OV.pickT (b := !(x144 == ([116, 114, 117, 101] : Str))) (v := .bool (!(x147 == ([102, 97, 108, 115, 101] : Str)))) rfl hc146 rfl) ?_
                            refine GA.take 26 rfl (by kernel_rfl) (by kernel_rfl) (by kernel_rfl) (fun _ _ _ h => by obtain ⟨_, _, _, h, _⟩ := h; cases h) ⟨_, _, rfl, rfl, hc131⟩ rfl (OV.pickF (b := false) (v := .bool (!(x147 == ([102, 97, 108, 115, 101] : Str)))) rfl rfl rfl) ?_
                            refine GA.take 27 rfl (by kernel_rfl) (by kernel_rfl) (by kernel_rfl) (fun _ _ _ h => by obtain ⟨_, _, _, h, _⟩ := h; cases h) trivial rfl (OV.pickT (b := r129) (v := .bool (!(x147 == ([102, 97, 108, 115, 101] : Str)))) rfl hc131 rfl) ?_
                            refine GA.take 32 rfl (by kernel_rfl) (by kernel_rfl) (by kernel_rfl) (fun _ _ _ h => by obtain ⟨_, _, _, h, _⟩ := h; cases h) trivial rfl (OV.assign (v := .bool (!(x147 == ([102, 97, 108, 115, 101] : Str)))) rfl) ?_
                            refine GA.take 33 rfl (by kernel_rfl) (by kernel_rfl) (by kernel_rfl) (fun _ _ _ h => by obtain ⟨_, _, _, h, _⟩ := h; cases h) trivial rfl (OV.assign (v := .bool (decide (((Sl.len x125 : Int) : Int) ≤ 8))) rfl) ?_
                            refine GA.done (by kernel_rfl) ?_
                            exact GL.jump (fun _ _ h => h) ((!(x147 == ([102, 97, 108, 115, 101] : Str))), (decide (((Sl.len x125 : Int) : Int) ≤ 8))) h ⟨rfl, rfl, rfl, trivial⟩
                          · replace h := And.right h hc146
                            refine GA.skip 22 rfl (by kernel_rfl) (by kernel_rfl) (by kernel_rfl) (fun _ _ _ h => by obtain ⟨_, _, _, h, _⟩ := h; cases h) ⟨_, rfl, .inl ⟨_, rfl, hc146⟩⟩ rfl ?_
                            refine GA.skip 23 rfl (by kernel_rfl) (by kernel_rfl) (by kernel_rfl) (fun _ _ _ h => by obtain ⟨_, _, _, h, _⟩ := h; cases h) ⟨_, rfl, .inl ⟨_, rfl, hc146⟩⟩ rfl ?_
                            refine GA.skip 24 rfl (by kernel_rfl) (by kernel_rfl) (by kernel_rfl) (fun _ _ _ h => by obtain ⟨_, _, _, h, _⟩ := h; cases h) ⟨_, rfl, .inl ⟨_, rfl, hc146⟩⟩ rfl ?_
                            refine GA.take 25 rfl (by kernel_rfl) (by kernel_rfl) (by kernel_rfl) (fun _ _ _ h => by obtain ⟨_, _, _, h, _⟩ := h; cases h) ⟨_, _, rfl, rfl, rfl⟩ rfl (OV.pickF (b := !(x144 == ([116, 114, 117, 101] : Str))) (v := .bool false) rfl hc146 rfl) ?_
                            refine GA.take 26 rfl (by kernel_rfl) (by kernel_rfl) (by kernel_rfl) (fun _ _ _ h => by obtain ⟨_, _, _, h, _⟩ := h; cases h) ⟨_, _, rfl, rfl, hc131⟩ rfl (OV.pickF (b := false) (v := .bool false) rfl rfl rfl) ?_
                            refine GA.take 27 rfl (by kernel_rfl) (by kernel_rfl) (by kernel_rfl) (fun _ _ _ h => by obtain ⟨_, _, _, h, _⟩ := h; cases h) trivial rfl (OV.pickT (b := r129) (v := .bool false) rfl hc131 rfl) ?_
                            refine GA.take 32 rfl (by kernel_rfl) (by kernel_rfl) (by kernel_rfl) (fun _ _ _ h => by obtain ⟨_, _, _, h, _⟩ := h; cases h) trivial rfl (OV.assign (v := .bool false) rfl) ?_
                            refine GA.take 33 rfl (by kernel_rfl) (by kernel_rfl) (by kernel_rfl) (fun _ _ _ h => by obtain ⟨_, _, _, h, _⟩ := h; cases h) trivial rfl (OV.assign (v := .bool (decide (((Sl.len x125 : Int) : Int) ≤ 8))) rfl) ?_
                            refine GA.done (by kernel_rfl) ?_
                            exact GL.jump (fun _ _ h => h) (false, (decide (((Sl.len x125 : Int) : Int) ≤ 8))) h ⟨rfl, rfl, rfl, trivial⟩
                        · replace h := And.right h hc143
                          refine GA.skip 17 rfl (by kernel_rfl) (by kernel_rfl) (by kernel_rfl) (fun _ _ _ h => by obtain ⟨_, _, _, h, _⟩ := h; cases h) ⟨_, rfl, .inl ⟨_, rfl, hc143⟩⟩ rfl ?_
                          refine GA.skip 18 rfl (by kernel_rfl) (by kernel_rfl) (by kernel_rfl) (fun _ _ _ h => by obtain ⟨_, _, _, h, _⟩ := h; cases h) ⟨_, rfl, .inl ⟨_, rfl, hc143⟩⟩ rfl ?_
                          refine GA.skip 19 rfl (by kernel_rfl) (by kernel_rfl) (by kernel_rfl) (fun _ _ _ h => by obtain ⟨_, _, _, h, _⟩ := h; cases h) ⟨_, rfl, .inl ⟨_, rfl, hc143⟩⟩ rfl ?_
                          refine GA.take 20 rfl (by kernel_rfl) (by kernel_rfl) (by kernel_rfl) (fun _ _ _ h => by obtain ⟨_, _, _, h, _⟩ := h; cases h) ⟨_, _, rfl, rfl, rfl⟩ rfl (OV.pickF (b := !r115) (v := .bool false) rfl hc143 rfl) ?_
                          refine GA.take 21 rfl (by kernel_rfl) (by kernel_rfl) (by kernel_rfl) (fun _ _ _ h => by obtain ⟨_, _, _, h, _⟩ := h; cases h) ⟨_, _, rfl, rfl, rfl⟩ rfl (OV.move (v := .bool false) rfl) ?_
                          refine GA.skip 22 rfl (by kernel_rfl) (by kernel_rfl) (by kernel_rfl) (fun _ _ _ h => by obtain ⟨_, _, _, h, _⟩ := h; cases h) ⟨_, rfl, .inl ⟨_, rfl, rfl⟩⟩ rfl ?_
                          refine GA.skip 23 rfl (by kernel_rfl) (by kernel_rfl) (by kernel_rfl) (fun _ _ _ h => by obtain ⟨_, _, _, h, _⟩ := h; cases h) ⟨_, rfl, .inl ⟨_, rfl, rfl⟩⟩ rfl ?_
                          refine GA.skip 24 rfl (by kernel_rfl) (by kernel_rfl) (by kernel_rfl) (fun _ _ _ h => by obtain ⟨_, _, _, h, _⟩ := h; cases h) ⟨_, rfl, .inl ⟨_, rfl, rfl⟩⟩ rfl ?_
                          refine GA.take 25 rfl (by kernel_rfl) (by kernel_rfl) (by kernel_rfl) (fun _ _ _ h => by obtain ⟨_, _, _, h, _⟩ := h; cases h) ⟨_, _, rfl, rfl, rfl⟩ rfl (OV.pickF (b := false) (v := .bool false) rfl rfl rfl) ?_
                          refine GA.take 26 rfl (by kernel_rfl) (by kernel_rfl) (by kernel_rfl) (fun _ _ _ h => by obtain ⟨_, _, _, h, _⟩ := h; cases h) ⟨_, _, rfl, rfl, hc131⟩ rfl (OV.pickF (b := false) (v := .bool false) rfl rfl rfl) ?_
                          refine GA.take 27 rfl (by kernel_rfl) (by kernel_rfl) (by kernel_rfl) (fun _ _ _ h => by obtain ⟨_, _, _, h, _⟩ := h; cases h) trivial rfl (OV.pickT (b := r129) (v := .bool false) rfl hc131 rfl) ?_
                          refine GA.take 32 rfl (by kernel_rfl) (by kernel_rfl) (by kernel_rfl) (fun _ _ _ h => by obtain ⟨_, _, _, h, _⟩ := h; cases h) trivial rfl (OV.assign (v := .bool false) rfl) ?_
                          refine GA.take 33 rfl (by kernel_rfl) (by kernel_rfl) (by kernel_rfl) (fun _ _ _ h => by obtain ⟨_, _, _, h, _⟩ := h; cases h) trivial rfl (OV.assign (v := .bool (decide (((Sl.len x125 : Int) : Int) ≤ 8))) rfl) ?_
                          refine GA.done (by kernel_rfl) ?_
                          exact GL.jump (fun _ _ h => h) (false, (decide (((Sl.len x125 : Int) : Int) ≤ 8))) h ⟨rfl, rfl, rfl, trivial⟩
                    · replace h := And.right h hc131
                      refine GA.skip 8 rfl (by kernel_rfl) (by kernel_rfl) (by kernel_rfl) (fun _ _ _ h => by obtain ⟨_, _, _, h, _⟩ := h; cases h) ⟨_, rfl, .inl ⟨_, rfl, hc131⟩⟩ rfl ?_
                      refine GA.skip 9 rfl (by kernel_rfl) (by kernel_rfl) (by kernel_rfl) (fun _ _ _ h => by obtain ⟨_, _, _, h, _⟩ := h; cases h) ⟨_, rfl, .inl ⟨_, rfl, hc131⟩⟩ rfl ?_
                      refine GA.skip 10 rfl (by kernel_rfl) (by kernel_rfl) (by kernel_rfl) (fun _ _ _ h => by obtain ⟨_, _, _, h, _⟩ := h; cases h) ⟨_, rfl, .inr rfl⟩ rfl ?_
                      refine GA.skip 11 rfl (by kernel_rfl) (by kernel_rfl) (by kernel_rfl) (fun _ _ _ h => by obtain ⟨_, _, _, h, _⟩ := h; cases h) ⟨_, rfl, .inr rfl⟩ rfl ?_
                      refine GA.skip 12 rfl (by kernel_rfl) (by kernel_rfl) (by kernel_rfl) (fun _ _ _ h => by obtain ⟨_, _, _, h, _⟩ := h; cases h) ⟨_, rfl, .inl ⟨_, rfl, hc131⟩⟩ rfl ?_
                      refine GA.skip 13 rfl (by kernel_rfl) (by kernel_rfl) (by kernel_rfl) (fun _ _ _ h => by obtain ⟨_, _, _, h, _⟩ := h; cases h) ⟨_, rfl, .inl ⟨_, rfl, hc131⟩⟩ rfl ?_
                      refine GA.skip 14 rfl (by kernel_rfl) (by kernel_rfl) (by kernel_rfl) (fun _ _ _ h => by obtain ⟨_, _, _, h, _⟩ := h; cases h) ⟨_, rfl, .inr rfl⟩ rfl ?_
                      refine GA.skip 15 rfl (by kernel_rfl) (by kernel_rfl) (by kernel_rfl) (fun _ _ _ h => by obtain ⟨_, _, _, h, _⟩ := h; cases h) ⟨_, rfl, .inr rfl⟩ rfl ?_
                      refine GA.skip 16 rfl (by kernel_rfl) (by kernel_rfl) (by kernel_rfl) (fun _ _ _ h => by obtain ⟨_, _, _, h, _⟩ := h; cases h) ⟨_, rfl, .inr rfl⟩ rfl ?_
                      refine GA.skip 17 rfl (by kernel_rfl) (by kernel_rfl) (by kernel_rfl) (fun _ _ _ h => by obtain ⟨_, _, _, h, _⟩ := h; cases h) ⟨_, rfl, .inr rfl⟩ rfl ?_
                      refine GA.skip 18 rfl (by kernel_rfl) (by kernel_rfl) (by kernel_rfl) (fun _ _ _ h => by obtain ⟨_, _, _, h, _⟩ := h; cases h) ⟨_, rfl, .inr rfl⟩ rfl ?_
                      refine GA.skip 19 rfl (by kernel_rfl) (by kernel_rfl) (by kernel_rfl) (fun _ _ _ h => by obtain ⟨_, _, _, h, _⟩ := h; cases h) ⟨_, rfl, .inr rfl⟩ rfl ?_
                      refine GA.skip 20 rfl (by kernel_rfl) (by kernel_rfl) (by kernel_rfl) (fun _ _ _ h => by obtain ⟨_, _, _, h, _⟩ := h; cases h) ⟨_, rfl, .inr rfl⟩ rfl ?_
                      refine GA.skip 21 rfl (by kernel_rfl) (by kernel_rfl) (by kernel_rfl) (fun _ _ _ h => by obtain ⟨_, _, _, h, _⟩ := h; cases h) ⟨_, rfl, .inr rfl⟩ rfl ?_
                      refine GA.skip 22 rfl (by kernel_rfl) (by kernel_rfl) (by kernel_rfl) (fun _ _ _ h => by obtain ⟨_, _, _, h, _⟩ := h; cases h) ⟨_, rfl, .inr rfl⟩ rfl ?_
                      refine GA.skip 23 rfl (by kernel_rfl) (by kernel_rfl) (by kernel_rfl) (fun _ _ _ h => by obtain ⟨_, _, _, h, _⟩ := h; cases h) ⟨_, rfl, .inr rfl⟩ rfl ?_
                      refine GA.skip 24 rfl (by kernel_rfl) (by kernel_rfl) (by kernel_rfl) (fun _ _ _ h => by obtain ⟨_, _, _, h, _⟩ := h; cases h) ⟨_, rfl, .inr rfl⟩ rfl ?_
                      refine GA.skip 25 rfl (by kernel_rfl) (by kernel_rfl) (by kernel_rfl) (fun _ _ _ h => by obtain ⟨_, _, _, h, _⟩ := h; cases h) ⟨_, rfl, .inr rfl⟩ rfl ?_
                      refine GA.skip 26 rfl (by kernel_rfl) (by kernel_rfl) (by kernel_rfl) (fun _ _ _ h => by obtain ⟨_, _, _, h, _⟩ := h; cases h) ⟨_, rfl, .inl ⟨_, rfl, hc131⟩⟩ rfl ?_
                      refine GA.take 27 rfl (by kernel_rfl) (by kernel_rfl) (by kernel_rfl) (fun _ _ _ h => by obtain ⟨_, _, _, h, _⟩ := h; cases h) trivial rfl (OV.pickF (b := r129) (v := .bool false) rfl hc131 rfl) ?_
                      refine GA.take 32 rfl (by kernel_rfl) (by kernel_rfl) (by kernel_rfl) (fun _ _ _ h => by obtain ⟨_, _, _, h, _⟩ := h; cases h) trivial rfl (OV.assign (v := .bool false) rfl) ?_
                      refine GA.take 33 rfl (by kernel_rfl) (by kernel_rfl) (by kernel_rfl) (fun _ _ _ h => by obtain ⟨_, _, _, h, _⟩ := h; cases h) trivial rfl (OV.assign (v := .bool (decide (((Sl.len x125 : Int) : Int) ≤ 8))) rfl) ?_
                      refine GA.done (by kernel_rfl) ?_
                      exact GL.jump (fun _ _ h => h) (false, (decide (((Sl.len x125 : Int) : Int) ≤ 8))) h ⟨rfl, rfl, rfl, trivial⟩
                  · replace h := And.right h hc127
                    refine GA.skip 4 rfl (by kernel_rfl) (by kernel_rfl) (by kernel_rfl) (fun _ _ _ h => by obtain ⟨_, _, _, h, _⟩ := h; cases h) ⟨_, rfl, .inl ⟨_, rfl, hc127⟩⟩ rfl ?_
                    refine GA.skip 5 rfl (by kernel_rfl) (by kernel_rfl) (by kernel_rfl) (fun _ _ _ h => by obtain ⟨_, _, _, h, _⟩ := h; cases h) ⟨_, rfl, .inl ⟨_, rfl, hc127⟩⟩ rfl ?_
                    refine GA.take 6 rfl (by kernel_rfl) (by kernel_rfl) (by kernel_rfl) (fun _ _ _ h => by obtain ⟨_, _, _, h, _⟩ := h; cases h) trivial rfl (OV.pickF (b := (x123 : Int) == 0) (v := .bool false) rfl hc127 rfl) ?_
                    refine GA.take 7 rfl (by kernel_rfl) (by kernel_rfl) (by kernel_rfl) (fun _ _ _ h => by obtain ⟨_, _, _, h, _⟩ := h; cases h) trivial rfl (OV.move (v := .bool false) rfl) ?_
                    refine GA.skip 8 rfl (by kernel_rfl) (by kernel_rfl) (by kernel_rfl) (fun _ _ _ h => by obtain ⟨_, _, _, h, _⟩ := h; cases h) ⟨_, rfl, .inl ⟨_, rfl, rfl⟩⟩ rfl ?_
                    refine GA.skip 9 rfl (by kernel_rfl) (by kernel_rfl) (by kernel_rfl) (fun _ _ _ h => by obtain ⟨_, _, _, h, _⟩ := h; cases h) ⟨_, rfl, .inl ⟨_, rfl, rfl⟩⟩ rfl ?_
                    refine GA.skip 10 rfl (by kernel_rfl) (by kernel_rfl) (by kernel_rfl) (fun _ _ _ h => by obtain ⟨_, _, _, h, _⟩ := h; cases h) ⟨_, rfl, .inr rfl⟩ rfl ?_
                    refine GA.skip 11 rfl (by kernel_rfl) (by kernel_rfl) (by kernel_rfl) (fun _ _ _ h => by obtain ⟨_, _, _, h, _⟩ := h; cases h) ⟨_, rfl, .inr rfl⟩ rfl ?_
                    refine GA.skip 12 rfl (by kernel_rfl) (by kernel_rfl) (by kernel_rfl) (fun _ _ _ h => by obtain ⟨_, _, _, h, _⟩ := h; cases h) ⟨_, rfl, .inl ⟨_, rfl, rfl⟩⟩ rfl ?_
                    refine GA.skip 13 rfl (by kernel_rfl) (by kernel_rfl) (by kernel_rfl) (fun _ _ _ h => by obtain ⟨_, _, _, h, _⟩ := h; cases h) ⟨_, rfl, .inl ⟨_, rfl, rfl⟩⟩ rfl ?_
                    refine GA.skip 14 rfl (by kernel_rfl) (by kernel_rfl) (by kernel_rfl) (fun _ _ _ h => by obtain ⟨_, _, _, h, _⟩ := h; cases h) ⟨_, rfl, .inr rfl⟩ rfl ?_
                    refine GA.skip 15 rfl (by kernel_rfl) (by kernel_rfl) (by kernel_rfl) (fun _ _ _ h => by obtain ⟨_, _, _, h, _⟩ := h; cases h) ⟨_, rfl, .inr rfl⟩ rfl ?_
                    refine GA.skip 16 rfl (by kernel_rfl) (by kernel_rfl) (by kernel_rfl) (fun _ _ _ h => by obtain ⟨_, _, _, h, _⟩ := h; cases h) ⟨_, rfl, .inr rfl⟩ rfl ?_
                    refine GA.skip 17 rfl (by kernel_rfl) (by kernel_rfl) (by kernel_rfl) (fun _ _ _ h => by obtain ⟨_, _, _, h, _⟩ := h; cases h) ⟨_, rfl, .inr rfl⟩ rfl ?_
                    refine GA.skip 18 rfl (by kernel_rfl) (by kernel_rfl) (by kernel_rfl) (fun _ _ _ h => by obtain ⟨_, _, _, h, _⟩ := h; cases h) ⟨_, rfl, .inr rfl⟩ rfl ?_
                    refine GA.skip 19 rfl (by kernel_rfl) (by kernel_rfl) (by kernel_rfl) (fun _ _ _ h => by obtain ⟨_, _, _, h, _⟩ := h; cases h) ⟨_, rfl, .inr rfl⟩ rfl ?_
                    refine GA.skip 20 rfl (by kernel_rfl) (by kernel_rfl) (by kernel_rfl) (fun _ _ _ h => by obtain ⟨_, _, _, h, _⟩ := h; cases h) ⟨_, rfl, .inr rfl⟩ rfl ?_
                    refine GA.skip 21 rfl (by kernel_rfl) (by kernel_rfl) (by kernel_rfl) (fun _ _ _ h => by obtain ⟨_, _, _, h, _⟩ := h; cases h) ⟨_, rfl, .inr rfl⟩ rfl ?_
                    refine GA.skip 22 rfl (by kernel_rfl) (by kernel_rfl) (by kernel_rfl) (fun _ _ _ h => by obtain ⟨_, _, _, h, _⟩ := h; cases h) ⟨_, rfl, .inr rfl⟩ rfl ?_
                    refine GA.skip 23 rfl (by kernel_rfl) (by kernel_rfl) (by kernel_rfl) (fun _ _ _ h => by obtain ⟨_, _, _, h, _⟩ := h; cases h) ⟨_, rfl, .inr rfl⟩ rfl ?_
                    refine GA.skip 24 rfl (by kernel_rfl) (by kernel_rfl) (by kernel_rfl) (fun _ _ _ h => by obtain ⟨_, _, _, h, _⟩ := h; cases h) ⟨_, rfl, .inr rfl⟩ rfl ?_
                    refine GA.skip 25 rfl (by kernel_rfl) (by kernel_rfl) (by kernel_rfl) (fun _ _ _ h => by obtain ⟨_, _, _, h, _⟩ := h; cases h) ⟨_, rfl, .inr rfl⟩ rfl ?_
                    refine GA.skip 26 rfl (by kernel_rfl) (by kernel_rfl) (by kernel_rfl) (fun _ _ _ h => by obtain ⟨_, _, _, h, _⟩ := h; cases h) ⟨_, rfl, .inl ⟨_, rfl, rfl⟩⟩ rfl ?_
                    refine GA.take 27 rfl (by kernel_rfl) (by kernel_rfl) (by kernel_rfl) (fun _ _ _ h => by obtain ⟨_, _, _, h, _⟩ := h; cases h) trivial rfl (OV.pickF (b := false) (v := .bool false) rfl rfl rfl) ?_
                    refine GA.take 32 rfl (by kernel_rfl) (by kernel_rfl) (by kernel_rfl) (fun _ _ _ h => by obtain ⟨_, _, _, h, _⟩ := h; cases h) trivial rfl (OV.assign (v := .bool false) rfl) ?_
                    refine GA.take 33 rfl (by kernel_rfl) (by kernel_rfl) (by kernel_rfl) (fun _ _ _ h => by obtain ⟨_, _, _, h, _⟩ := h; cases h) trivial rfl (OV.assign (v := .bool (decide (((Sl.len x125 : Int) : Int) ≤ 8))) rfl) ?_
                    refine GA.done (by kernel_rfl) ?_
                    exact GL.jump (fun _ _ h => h) (false, (decide (((Sl.len x125 : Int) : Int) ≤ 8))) h ⟨rfl, rfl, rfl, trivial⟩
                · intro x118 H119 h
                  replace h := hR120 x118 H119 h
                  exact GL.jump (fun _ _ h => h) (x118.1, x118.2) h ⟨rfl, rfl, rfl, trivial⟩
              · replace h := And.right h hc110
                refine GC.region ?_
                refine GL.val trivial rfl (OV.assign (v := .bool false) rfl) ?_
                exact GL.jump (fun _ _ h => h) (false, true) h ⟨rfl, rfl, rfl, trivial⟩
  · intro x20 H21 h
    replace h := hR22 x20 H21 h
    refine GC.seq ?_
    refine GC.seq ?_
    refine GC.region ?_
    refine GL.val trivial rfl (OV.fieldAddr (p := (b1, 0)) rfl rfl) ?_
    obtain ⟨x149, hr150, h⟩ := h
    refine GL.val trivial rfl (OV.load (p := ((b1, 0).1, (b1, 0).2 + 3)) rfl rfl hr150) ?_
    refine GL.val trivial rfl (OV.lenSl (s := x149) rfl rfl) ?_
    refine GL.val trivial rfl (OV.move (v := .int .i64 0) rfl) ?_
    refine GL.nil ?_
    refine GC.block ?_
    refine GC.loop (α := Bool × Bool × Int) h (fun x151 => [(2, .bool x151.1), (3, .bool x151.2.1), (162, .int .i64 x151.2.2), (160, slv x149), (161, .int .i64 (Sl.len x149 : Int))]) ⟨rfl, rfl, rfl, rfl, rfl, trivial⟩ ?_
    intro x151 H153 J152 h
    refine GC.seq ?_
    refine GC.region ?_
    refine GL.val trivial rfl (OV.ibin (v := .bool (decide ((x151.2.2 : Int) < (Sl.len x149 : Int)))) rfl rfl rfl) ?_
    refine GL.nil ?_
    refine GC.seq ?_
    refine GC.cond (b := decide ((x151.2.2 : Int) < (Sl.len x149 : Int))) rfl (fun hc154 => ?_) (fun hc154 => ?_)
    · replace h := And.left h hc154
      refine GC.skip ?_
      refine GC.seq ?_
      refine GC.block ?_
      refine GC.seq ?_
      refine GC.region ?_
      obtain ⟨p155, ha156, hb157, hc158, hd159, h⟩ := h
      refine GL.val trivial rfl (OV.indexAddr (s := x149) rfl rfl rfl rfl ha156 hb157 hc158 hd159) ?_
      obtain ⟨x160, hr161, h⟩ := h
      refine GL.val trivial rfl (OV.loadT (p := (p155.1, p155.2 + (x151.2.2 : Int).toNat * 4)) (cs := T_api_Value.c x160) rfl rfl rfl hr161) ?_
      refine GL.alloc (cs := T_api_Value.c T_api_Value.zero) h trivial rfl rfl rfl ?_
      intro b162 H163 h
      refine GL.storeT (p := (b162, 0)) (vs := T_api_Value.c x160) h trivial rfl rfl rfl rfl ?_
      intro H164 h
      refine GL.nil ?_
      refine GC.seq ?_
      refine GC.region ?_
      obtain ⟨x165, hr166, h⟩ := h
      refine GL.val trivial rfl (OV.loadT (p := (b162, 0)) (cs := T_api_Value.c x165) rfl rfl rfl hr166) ?_
      refine GL.call h trivial rfl ok_value_item_look (vs := [.agg (T_api_Value.c x165).toArray]) rfl ?_
      rintro _ H169 ⟨r167, r168, rfl, h⟩
      refine GL.val trivial rfl (OV.move (v := .tuple #[.bool r167, .bool r168]) rfl) ?_
      refine GL.val trivial rfl (OV.extract (v := .bool r167) rfl rfl) ?_
      refine GL.val trivial rfl (OV.extract (v := .bool r168) rfl rfl) ?_
      refine GL.val trivial rfl (OV.assign (v := .bool r167) rfl) ?_
      refine GL.val trivial rfl (OV.assign (v := .bool r168) rfl) ?_
      refine GL.nil ?_
      refine GC.region ?_
      refine GL.val trivial rfl (OV.move (v := .bool x151.1) rfl) ?_
      refine GL.val trivial rfl (OV.move (v := .bool x151.1) rfl) ?_
      refine GL.cut0 2 [(174, .bool (x151.1 && r167)), (3, .bool x151.2.1), (12, .bool r168), (160, slv x149), (161, .int .i64 (Sl.len x149 : Int)), (162, .int .i64 x151.2.2)] ?_ ?_
      · rcases Bool.eq_false_or_eq_true x151.1 with hc170 | hc170
        · skip
          refine GL.val ⟨_, _, rfl, rfl, hc170⟩ rfl (OV.move (v := .bool r167) rfl) ?_
          refine GL.val trivial rfl (OV.pickT (b := x151.1) (v := .bool r167) rfl hc170 rfl) ?_
          exact GL.jump0 (fun _ _ h => h) () rfl ⟨(by rw [hc170]; rfl), rfl, rfl, rfl, rfl, rfl, trivial⟩
        · skip
          refine GL.skip ⟨_, rfl, .inl ⟨_, rfl, hc170⟩⟩ rfl ?_
          refine GL.val trivial rfl (OV.pickF (b := x151.1) (v := .bool false) rfl hc170 rfl) ?_
          exact GL.jump0 (fun _ _ h => h) () rfl ⟨(by rw [hc170]; rfl), rfl, rfl, rfl, rfl, rfl, trivial⟩
      refine GL.val trivial rfl (OV.move (v := .bool x151.2.1) rfl) ?_
      refine GL.val trivial rfl (OV.move (v := .bool x151.2.1) rfl) ?_
      refine GL.cut0 2 [(178, .bool (x151.2.1 && r168)), (160, slv x149), (161, .int .i64 (Sl.len x149 : Int)), (162, .int .i64 x151.2.2), (174, .bool (x151.1 && r167))] ?_ ?_
      · rcases Bool.eq_false_or_eq_true x151.2.1 with hc171 | hc171
        · skip
          refine GL.val ⟨_, _, rfl, rfl, hc171⟩ rfl (OV.move (v := .bool r168) rfl) ?_
          refine GL.val trivial rfl (OV.pickT (b := x151.2.1) (v := .bool r168) rfl hc171 rfl) ?_
          exact GL.jump0 (fun _ _ h => h) () rfl ⟨(by rw [hc171]; rfl), rfl, rfl, rfl, rfl, trivial⟩
        · skip
          refine GL.skip ⟨_, rfl, .inl ⟨_, rfl, hc171⟩⟩ rfl ?_
          refine GL.val trivial rfl (OV.pickF (b := x151.2.1) (v := .bool false) rfl hc171 rfl) ?_
          exact GL.jump0 (fun _ _ h => h) () rfl ⟨(by rw [hc171]; rfl), rfl, rfl, rfl, rfl, trivial⟩
      refine GL.val trivial rfl (OV.assign (v := .bool (x151.1 && r167)) rfl) ?_
      refine GL.val trivial rfl (OV.assign (v := .bool (x151.2.1 && r168)) rfl) ?_
      refine GL.nil_to (fun _ _ h => h) ?_
      refine GC.region ?_
      refine GL.val trivial rfl (OV.ibin (v := .int .i64 (w .i64 (x151.2.2 + 1))) rfl rfl rfl) ?_
      refine GL.val trivial rfl (OV.move (v := .int .i64 (w .i64 (x151.2.2 + 1))) rfl) ?_
      exact GL.jump (fun _ _ h => h) ((x151.1 && r167), (x151.2.1 && r168), (w .i64 (x151.2.2 + 1))) h ⟨rfl, rfl, rfl, rfl, rfl, trivial⟩
    · replace h := And.right h hc154
      refine GC.exit_to (fun _ _ h => h) ?_
      refine GC.seq ?_
      refine GC.region ?_
      refine GL.val trivial rfl (OV.move (v := .bool x151.1) rfl) ?_
      refine GL.val trivial rfl (OV.move (v := .bool x151.2.1) rfl) ?_
      refine GL.val trivial rfl (OV.assign (v := .bool x151.1) rfl) ?_
      refine GL.val trivial rfl (OV.assign (v := .bool x151.2.1) rfl) ?_
      refine GL.nil ?_
      exact GC.ret (fun _ _ hf hs => post_tmp2 rfl rfl rfl hf hs ⟨x151.1, x151.2.1, rfl, h⟩)

def sh_code_pen_truth (C : Ctx) (p_p : Option (Nat × Nat)) (p_v : T_api_Value) (K : Heap → Prop) (H : Heap) : Prop :=
  nw (T_api_Value.c p_v) (fun b1 H2 =>
 ldI H2 .i64 ((b1, 0).1, (b1, 0).2 + 1) fun x3 =>
 nw ([.int .u8 (w .u8 x3)]) (fun b5 H6 =>
 c_code_pen_put C p_p (Sl.of (some (b5, 0)) 1 1) (fun H7 =>
 K H7) H6) H2) H

theorem ad_code_pen_truth (C : Ctx) (p_p : Option (Nat × Nat)) (p_v : T_api_Value) (K : Heap → Prop) (H : Heap) (h : sh_code_pen_truth C p_p p_v K H) : c_code_pen_truth C p_p p_v K H := by
  refine Spec.enter Tryd.func72 rfl Tryd.ntmps72 rfl ?_
  refine GC.sub [(0, pv p_p), (1, .agg (T_api_Value.c p_v).toArray)] ⟨rfl, rfl, trivial⟩ ?_
  refine GC.seq ?_
  refine GC.region ?_
  refine GL.box (v := .agg (T_api_Value.c p_v).toArray) (cs := T_api_Value.c p_v) h trivial rfl rfl rfl ?_
  intro b1 H2 h
  refine GL.nil ?_
  refine GC.region ?_
  refine GL.val trivial rfl (OV.move (v := pv p_p) rfl) ?_
  refine GL.val trivial rfl (OV.fieldAddr (p := (b1, 0)) rfl rfl) ?_
  obtain ⟨x3, hr4, h⟩ := h
  refine GL.val trivial rfl (OV.load (p := ((b1, 0).1, (b1, 0).2 + 1)) rfl rfl hr4) ?_
  refine GL.val trivial rfl (OV.convInt rfl rfl rfl) ?_
  refine GL.buildSlice (cs := [.int .u8 (w .u8 x3)]) h trivial rfl (vs := [(0, .int .u8 (w .u8 x3))]) rfl ⟨5, fun _ => by kernel_rfl⟩ ?_
  intro b5 H6 h
  refine GL.call h trivial rfl ok_code_pen_put (vs := [pv p_p, slv (Sl.of (some (b5, 0)) 1 1)]) rfl ?_
  rintro _ H7 ⟨rfl, h⟩
  exact GL.ends (fun _ _ hf hs => post_tmp0 rfl hf hs ⟨rfl, h⟩)

def sh_code_pen_whole (C : Ctx) (p_p : Option (Nat × Nat)) (p_v : T_api_Value) (K : Heap → Prop) (H : Heap) : Prop :=
  nw (T_api_Value.c p_v) (fun b1 H2 =>
 ldI H2 .i64 ((b1, 0).1, (b1, 0).2 + 1) fun x3 =>
 c_code_pen_num C p_p x3 (fun H5 =>
 K H5) H2) H

theorem ad_code_pen_whole (C : Ctx) (p_p : Option (Nat × Nat)) (p_v : T_api_Value) (K : Heap → Prop) (H : Heap) (h : sh_code_pen_whole C p_p p_v K H) : c_code_pen_whole C p_p p_v K H := by
  refine Spec.enter Tryd.func73 rfl Tryd.ntmps73 rfl ?_
  refine GC.sub [(0, pv p_p), (1, .agg (T_api_Value.c p_v).toArray)] ⟨rfl, rfl, trivial⟩ ?_
  refine GC.seq ?_
  refine GC.region ?_
  refine GL.box (v := .agg (T_api_Value.c p_v).toArray) (cs := T_api_Value.c p_v) h trivial rfl rfl rfl ?_
  intro b1 H2 h
  refine GL.nil ?_
  refine GC.region ?_
  refine GL.val trivial rfl (OV.move (v := pv p_p) rfl) ?_
  refine GL.val trivial rfl (OV.fieldAddr (p := (b1, 0)) rfl rfl) ?_
  obtain ⟨x3, hr4, h⟩ := h
  refine GL.val trivial rfl (OV.load (p := ((b1, 0).1, (b1, 0).2 + 1)) rfl rfl hr4) ?_
  refine GL.call h trivial rfl ok_code_pen_num (vs := [pv p_p, .int .i64 x3]) rfl ?_
  rintro _ H5 ⟨rfl, h⟩
  exact GL.ends (fun _ _ hf hs => post_tmp0 rfl hf hs ⟨rfl, h⟩)

def sh_code_pen_big (C : Ctx) (p_p : Option (Nat × Nat)) (p_v : T_api_Value) (K : Heap → Prop) (H : Heap) : Prop :=
  nw (T_api_Value.c p_v) (fun b1 H2 =>
 ldS H2 ((b1, 0).1, (b1, 0).2 + 2) fun x3 =>
 c_strings_CutPrefix C x3 [45] (fun r5 r6 H7 =>
 c_code_pen_flip C p_p r6 (fun H8 =>
 nw ([.int .u8 128]) (fun b9 H10 =>
 c_code_pen_put C p_p (Sl.of (some (b9, 0)) 1 1) (fun H11 =>
 c_code_pen_number C p_p 0 (w .u64 (List.length r5 : Int)) (fun H12 =>
 s2b r5 (fun r13 H14 =>
 c_code_pen_put C p_p r13 (fun H15 =>
 c_code_pen_flip C p_p r6 (fun H16 =>
 K H16) H15) H14) H12) H11) H10) H8) H7) H2) H

theorem ad_code_pen_big (C : Ctx) (p_p : Option (Nat × Nat)) (p_v : T_api_Value) (K : Heap → Prop) (H : Heap) (h : sh_code_pen_big C p_p p_v K H) : c_code_pen_big C p_p p_v K H := by
  refine Spec.enter Tryd.func74 rfl Tryd.ntmps74 rfl ?_
  refine GC.sub [(0, pv p_p), (1, .agg (T_api_Value.c p_v).toArray)] ⟨rfl, rfl, trivial⟩ ?_
  refine GC.seq ?_
  refine GC.region ?_
  refine GL.box (v := .agg (T_api_Value.c p_v).toArray) (cs := T_api_Value.c p_v) h trivial rfl rfl rfl ?_
  intro b1 H2 h
  refine GL.nil ?_
  refine GC.seq ?_
  refine GC.region ?_
  refine GL.val trivial rfl (OV.fieldAddr (p := (b1, 0)) rfl rfl) ?_
  obtain ⟨x3, hr4, h⟩ := h
  refine GL.val trivial rfl (OV.load (p := ((b1, 0).1, (b1, 0).2 + 2)) rfl rfl hr4) ?_
  refine GL.call h trivial rfl ok_strings_CutPrefix (vs := [sv x3, sv [45]]) rfl ?_
  rintro _ H7 ⟨r5, r6, rfl, h⟩
  refine GL.val trivial rfl (OV.move (v := .tuple #[sv r5, .bool r6]) rfl) ?_
  refine GL.val trivial rfl (OV.extract (v := sv r5) rfl rfl) ?_
  refine GL.val trivial rfl (OV.extract (v := .bool r6) rfl rfl) ?_
  refine GL.val trivial rfl (OV.assign (v := sv r5) rfl) ?_
  refine GL.val trivial rfl (OV.assign (v := .bool r6) rfl) ?_
  refine GL.nil ?_
  refine GC.seq ?_
  refine GC.region ?_
  refine GL.val trivial rfl (OV.move (v := pv p_p) rfl) ?_
  refine GL.val trivial rfl (OV.move (v := .bool r6) rfl) ?_
  refine GL.call h trivial rfl ok_code_pen_flip (vs := [pv p_p, .bool r6]) rfl ?_
  rintro _ H8 ⟨rfl, h⟩
  refine GL.nil ?_
  refine GC.seq ?_
  refine GC.region ?_
  refine GL.val trivial rfl (OV.move (v := pv p_p) rfl) ?_
  refine GL.buildSlice (cs := [.int .u8 128]) h trivial rfl (vs := [(0, .int .u8 128)]) rfl ⟨5, fun _ => by kernel_rfl⟩ ?_
  intro b9 H10 h
  refine GL.call h trivial rfl ok_code_pen_put (vs := [pv p_p, slv (Sl.of (some (b9, 0)) 1 1)]) rfl ?_
  rintro _ H11 ⟨rfl, h⟩
  refine GL.nil ?_
  refine GC.seq ?_
  refine GC.region ?_
  refine GL.val trivial rfl (OV.move (v := pv p_p) rfl) ?_
  refine GL.val trivial rfl (OV.move (v := sv r5) rfl) ?_
  refine GL.val trivial rfl (OV.lenStr (s := r5) rfl rfl) ?_
  refine GL.val trivial rfl (OV.convInt rfl rfl rfl) ?_
  refine GL.call h trivial rfl ok_code_pen_number (vs := [pv p_p, .int .u8 0, .int .u64 (w .u64 (List.length r5 : Int))]) rfl ?_
  rintro _ H12 ⟨rfl, h⟩
  refine GL.nil ?_
  refine GC.seq ?_
  refine GC.region ?_
  refine GL.val trivial rfl (OV.move (v := pv p_p) rfl) ?_
  refine GL.val trivial rfl (OV.move (v := sv r5) rfl) ?_
  refine GL.s2b (s := r5) h trivial rfl rfl rfl rfl rfl ?_
  intro r13 H14 h
  refine GL.call h trivial rfl ok_code_pen_put (vs := [pv p_p, slv r13]) rfl ?_
  rintro _ H15 ⟨rfl, h⟩
  refine GL.nil ?_
  refine GC.region ?_
  refine GL.val trivial rfl (OV.move (v := pv p_p) rfl) ?_
  refine GL.val trivial rfl (OV.move (v := .bool r6) rfl) ?_
  refine GL.call h trivial rfl ok_code_pen_flip (vs := [pv p_p, .bool r6]) rfl ?_
  rintro _ H16 ⟨rfl, h⟩
  exact GL.ends (fun _ _ hf hs => post_tmp0 rfl hf hs ⟨rfl, h⟩)

def sh_code_pen_words (C : Ctx) (p_p : Option (Nat × Nat)) (p_v : T_api_Value) (K : Heap → Prop) (H : Heap) : Prop :=
  nw (T_api_Value.c p_v) (fun b1 H2 =>
 ldS H2 ((b1, 0).1, (b1, 0).2 + 2) fun x3 =>
 c_code_pen_text C p_p x3 (fun H5 =>
 K H5) H2) H

theorem ad_code_pen_words (C : Ctx) (p_p : Option (Nat × Nat)) (p_v : T_api_Value) (K : Heap → Prop) (H : Heap) (h : sh_code_pen_words C p_p p_v K H) : c_code_pen_words C p_p p_v K H := by
  refine Spec.enter Tryd.func75 rfl Tryd.ntmps75 rfl ?_
  refine GC.sub [(0, pv p_p), (1, .agg (T_api_Value.c p_v).toArray)] ⟨rfl, rfl, trivial⟩ ?_
  refine GC.seq ?_
  refine GC.region ?_
  refine GL.box (v := .agg (T_api_Value.c p_v).toArray) (cs := T_api_Value.c p_v) h trivial rfl rfl rfl ?_
  intro b1 H2 h
  refine GL.nil ?_
  refine GC.region ?_
  refine GL.val trivial rfl (OV.move (v := pv p_p) rfl) ?_
  refine GL.val trivial rfl (OV.fieldAddr (p := (b1, 0)) rfl rfl) ?_
  obtain ⟨x3, hr4, h⟩ := h
  refine GL.val trivial rfl (OV.load (p := ((b1, 0).1, (b1, 0).2 + 2)) rfl rfl hr4) ?_
  refine GL.call h trivial rfl ok_code_pen_text (vs := [pv p_p, sv x3]) rfl ?_
  rintro _ H5 ⟨rfl, h⟩
  exact GL.ends (fun _ _ hf hs => post_tmp0 rfl hf hs ⟨rfl, h⟩)

def sh_code_pen_list (C : Ctx) (p_p : Option (Nat × Nat)) (p_v : T_api_Value) (K : Heap → Prop) (H : Heap) : Prop :=
  nw (T_api_Value.c p_v) (fun b1 H2 =>
 ldL H2 ((b1, 0).1, (b1, 0).2 + 3) fun x3 =>
 lp (α := Int) 0 H2 (fun x5 J6 H7 =>
 ift (decide ((x5 : Int) < (Sl.len x3 : Int)))
 (ixa x3 x5 fun p9 =>
 ldT H7 T_api_Value.c (p9.1, p9.2 + (x5 : Int).toNat * 4) fun x14 =>
 nw (T_api_Value.c T_api_Value.zero) (fun b16 H17 =>
 stT (b16, 0) (T_api_Value.c x14) (fun H18 =>
 nw ([.int .u8 1]) (fun b19 H20 =>
 c_code_pen_put C p_p (Sl.of (some (b19, 0)) 1 1) (fun H21 =>
 ldT H21 T_api_Value.c (b16, 0) fun x22 =>
 c_code_pen_value C p_p x22 (fun H24 =>
 J6 (w .i64 (x5 + 1)) H24) H21) H20) H18) H17) H7)
 (nw ([.int .u8 0]) (fun b25 H26 =>
 c_code_pen_put C p_p (Sl.of (some (b25, 0)) 1 1) (fun H27 =>
 K H27) H26) H7))) H

theorem ad_code_pen_list (C : Ctx) (p_p : Option (Nat × Nat)) (p_v : T_api_Value) (K : Heap → Prop) (H : Heap) (h : sh_code_pen_list C p_p p_v K H) : c_code_pen_list C p_p p_v K H := by
  refine Spec.enter Tryd.func76 rfl Tryd.ntmps76 rfl ?_
  refine GC.sub [(0, pv p_p), (1, .agg (T_api_Value.c p_v).toArray)] ⟨rfl, rfl, trivial⟩ ?_
  refine GC.seq ?_
  refine GC.region ?_
  refine GL.box (v := .agg (T_api_Value.c p_v).toArray) (cs := T_api_Value.c p_v) h trivial rfl rfl rfl ?_
  intro b1 H2 h
  refine GL.nil ?_
  refine GC.seq ?_
  refine GC.seq ?_
  refine GC.region ?_
  refine GL.val trivial rfl (OV.fieldAddr (p := (b1, 0)) rfl rfl) ?_
  obtain ⟨x3, hr4, h⟩ := h
  refine GL.val trivial rfl (OV.load (p := ((b1, 0).1, (b1, 0).2 + 3)) rfl rfl hr4) ?_
  refine GL.val trivial rfl (OV.lenSl (s := x3) rfl rfl) ?_
  refine GL.val trivial rfl (OV.move (v := .int .i64 0) rfl) ?_
  refine GL.nil ?_
  refine GC.block ?_
  refine GC.loop (α := Int) h (fun x5 => [(9, .int .i64 x5), (0, pv p_p), (7, slv x3), (8, .int .i64 (Sl.len x3 : Int))]) ⟨rfl, rfl, rfl, rfl, trivial⟩ ?_
  intro x5 H7 J6 h
  refine GC.seq ?_
  refine GC.region ?_
  refine GL.val trivial rfl (OV.ibin (v := .bool (decide ((x5 : Int) < (Sl.len x3 : Int)))) rfl rfl rfl) ?_
  refine GL.nil ?_
  refine GC.seq ?_
  refine GC.cond (b := decide ((x5 : Int) < (Sl.len x3 : Int))) rfl (fun hc8 => ?_) (fun hc8 => ?_)
  · replace h := And.left h hc8
    refine GC.skip ?_
    refine GC.seq ?_
    refine GC.block ?_
    refine GC.seq ?_
    refine GC.region ?_
    obtain ⟨p9, ha10, hb11, hc12, hd13, h⟩ := h
    refine GL.val trivial rfl (OV.indexAddr (s := x3) rfl rfl rfl rfl ha10 hb11 hc12 hd13) ?_
    obtain ⟨x14, hr15, h⟩ := h
    refine GL.val trivial rfl (OV.loadT (p := (p9.1, p9.2 + (x5 : Int).toNat * 4)) (cs := T_api_Value.c x14) rfl rfl rfl hr15) ?_
    refine GL.alloc (cs := T_api_Value.c T_api_Value.zero) h trivial rfl rfl rfl ?_
    intro b16 H17 h
    refine GL.storeT (p := (b16, 0)) (vs := T_api_Value.c x14) h trivial rfl rfl rfl rfl ?_
    intro H18 h
    refine GL.nil ?_
    refine GC.seq ?_
    refine GC.region ?_
    refine GL.val trivial rfl (OV.move (v := pv p_p) rfl) ?_
    refine GL.buildSlice (cs := [.int .u8 1]) h trivial rfl (vs := [(0, .int .u8 1)]) rfl ⟨5, fun _ => by kernel_rfl⟩ ?_
    intro b19 H20 h
    refine GL.call h trivial rfl ok_code_pen_put (vs := [pv p_p, slv (Sl.of (some (b19, 0)) 1 1)]) rfl ?_
    rintro _ H21 ⟨rfl, h⟩
    refine GL.nil ?_
    refine GC.region ?_
    refine GL.val trivial rfl (OV.move (v := pv p_p) rfl) ?_
    obtain ⟨x22, hr23, h⟩ := h
    refine GL.val trivial rfl (OV.loadT (p := (b16, 0)) (cs := T_api_Value.c x22) rfl rfl rfl hr23) ?_
    refine GL.call h trivial rfl ok_code_pen_value (vs := [pv p_p, .agg (T_api_Value.c x22).toArray]) rfl ?_
    rintro _ H24 ⟨rfl, h⟩
    refine GL.nil_to (fun _ _ h => h) ?_
    refine GC.region ?_
    refine GL.val trivial rfl (OV.ibin (v := .int .i64 (w .i64 (x5 + 1))) rfl rfl rfl) ?_
    refine GL.val trivial rfl (OV.move (v := .int .i64 (w .i64 (x5 + 1))) rfl) ?_
    exact GL.jump (fun _ _ h => h) (w .i64 (x5 + 1)) h ⟨rfl, rfl, rfl, rfl, trivial⟩
  · replace h := And.right h hc8
    refine GC.exit_to (fun _ _ h => h) ?_
    refine GC.region ?_
    refine GL.val trivial rfl (OV.move (v := pv p_p) rfl) ?_
    refine GL.buildSlice (cs := [.int .u8 0]) h trivial rfl (vs := [(0, .int .u8 0)]) rfl ⟨5, fun _ => by kernel_rfl⟩ ?_
    intro b25 H26 h
    refine GL.call h trivial rfl ok_code_pen_put (vs := [pv p_p, slv (Sl.of (some (b25, 0)) 1 1)]) rfl ?_
    rintro _ H27 ⟨rfl, h⟩
    exact GL.ends (fun _ _ hf hs => post_tmp0 rfl hf hs ⟨rfl, h⟩)

def sh_code_pen_cons (C : Ctx) (p_p : Option (Nat × Nat)) (p_v : T_api_Value) (K : Heap → Prop) (H : Heap) : Prop :=
  nw (T_api_Value.c p_v) (fun b1 H2 =>
 ldS H2 ((b1, 0).1, (b1, 0).2 + 2) fun x3 =>
 c_code_pen_text C p_p x3 (fun H5 =>
 ldT H5 T_api_Value.c (b1, 0) fun x6 =>
 c_code_pen_list C p_p x6 (fun H8 =>
 K H8) H5) H2) H

theorem ad_code_pen_cons (C : Ctx) (p_p : Option (Nat × Nat)) (p_v : T_api_Value) (K : Heap → Prop) (H : Heap) (h : sh_code_pen_cons C p_p p_v K H) : c_code_pen_cons C p_p p_v K H := by
  refine Spec.enter Tryd.func77 rfl Tryd.ntmps77 rfl ?_
  refine GC.sub [(0, pv p_p), (1, .agg (T_api_Value.c p_v).toArray)] ⟨rfl, rfl, trivial⟩ ?_
  refine GC.seq ?_
  refine GC.region ?_
  refine GL.box (v := .agg (T_api_Value.c p_v).toArray) (cs := T_api_Value.c p_v) h trivial rfl rfl rfl ?_
  intro b1 H2 h
  refine GL.nil ?_
  refine GC.seq ?_
  refine GC.region ?_
  refine GL.val trivial rfl (OV.move (v := pv p_p) rfl) ?_
  refine GL.val trivial rfl (OV.fieldAddr (p := (b1, 0)) rfl rfl) ?_
  obtain ⟨x3, hr4, h⟩ := h
  refine GL.val trivial rfl (OV.load (p := ((b1, 0).1, (b1, 0).2 + 2)) rfl rfl hr4) ?_
  refine GL.call h trivial rfl ok_code_pen_text (vs := [pv p_p, sv x3]) rfl ?_
  rintro _ H5 ⟨rfl, h⟩
  refine GL.nil ?_
  refine GC.region ?_
  refine GL.val trivial rfl (OV.move (v := pv p_p) rfl) ?_
  obtain ⟨x6, hr7, h⟩ := h
  refine GL.val trivial rfl (OV.loadT (p := (b1, 0)) (cs := T_api_Value.c x6) rfl rfl rfl hr7) ?_
  refine GL.call h trivial rfl ok_code_pen_list (vs := [pv p_p, .agg (T_api_Value.c x6).toArray]) rfl ?_
  rintro _ H8 ⟨rfl, h⟩
  exact GL.ends (fun _ _ hf hs => post_tmp0 rfl hf hs ⟨rfl, h⟩)

def sh_ref03_big (C : Ctx) (p_s : Str) (K : Sl → Heap → Prop) (H : Heap) : Prop :=
  ixs p_s 0 fun c1 =>
 ift (((c1.toNat : Int) : Int) == 45)
 (slS p_s 1 (List.length p_s : Int) fun t5 =>
 c_ref03_big C t5 (fun r11 H12 =>
 c_ref03_turned C r11 (fun r13 H14 =>
 K r13 H14) H12) H)
 (nw ([.int .u8 128]) (fun b15 H16 =>
 c_ref03_Count C (Sl.of (some (b15, 0)) 1 1) (List.length p_s : Int) (fun r17 H18 =>
 s2b p_s (fun r19 H20 =>
 c_ref03_with C r17 r19 (fun r21 H22 =>
 K r21 H22) H20) H18) H16) H)

theorem ad_ref03_big (C : Ctx) (p_s : Str) (K : Sl → Heap → Prop) (H : Heap) (h : sh_ref03_big C p_s K H) : c_ref03_big C p_s K H := by
  refine Spec.enter Tryd.func78 rfl Tryd.ntmps78 rfl ?_
  refine GC.sub [(0, sv p_s)] ⟨rfl, trivial⟩ ?_
  refine GC.seq ?_
  refine GC.region ?_
  refine GL.val trivial rfl (OV.assign (v := slv Sl.nil) rfl) ?_
  refine GL.nil ?_
  refine GC.seq ?_
  refine GC.seq ?_
  refine GC.region ?_
  refine GL.val trivial rfl (OV.move (v := sv p_s) rfl) ?_
  obtain ⟨c1, ha2, hb3, h⟩ := h
  refine GL.val trivial rfl (OV.indexStr (s := p_s) rfl rfl rfl ha2 hb3) ?_
  refine GL.val trivial rfl (OV.ibin (v := .bool (((c1.toNat : Int) : Int) == 45)) rfl rfl rfl) ?_
  refine GL.nil ?_
  refine GC.cond (b := ((c1.toNat : Int) : Int) == 45) rfl (fun hc4 => ?_) (fun hc4 => ?_)
  · replace h := And.left h hc4
    refine GC.seq ?_
    refine GC.region ?_
    refine GL.val trivial rfl (OV.move (v := sv p_s) rfl) ?_
    obtain ⟨h6, h7, h8, t5, h9, h⟩ := h
    refine GL.val trivial rfl (OV.sliceStr (s := p_s) h6 h7 h8 h9 rfl rfl rfl rfl rfl rfl) ?_
    refine GL.call h trivial rfl ok_ref03_big (vs := [sv t5]) rfl ?_
    rintro _ H12 ⟨r11, rfl, h⟩
    refine GL.call h trivial rfl ok_ref03_turned (vs := [slv r11]) rfl ?_
    rintro _ H14 ⟨r13, rfl, h⟩
    refine GL.val trivial rfl (OV.assign (v := slv r13) rfl) ?_
    refine GL.nil ?_
    exact GC.ret (fun _ _ hf hs => post_tmp1 rfl rfl hf hs ⟨r13, rfl, h⟩)
  · replace h := And.right h hc4
    refine GC.skip ?_
    refine GC.seq ?_
    refine GC.region ?_
    refine GL.buildSlice (cs := [.int .u8 128]) h trivial rfl (vs := [(0, .int .u8 128)]) rfl ⟨5, fun _ => by kernel_rfl⟩ ?_
    intro b15 H16 h
    refine GL.val trivial rfl (OV.move (v := sv p_s) rfl) ?_
    refine GL.val trivial rfl (OV.lenStr (s := p_s) rfl rfl) ?_
    refine GL.call h trivial rfl ok_ref03_Count (vs := [slv (Sl.of (some (b15, 0)) 1 1), .int .i64 (List.length p_s : Int)]) rfl ?_
    rintro _ H18 ⟨r17, rfl, h⟩
    refine GL.val trivial rfl (OV.move (v := sv p_s) rfl) ?_
    refine GL.s2b (s := p_s) h trivial rfl rfl rfl rfl rfl ?_
    intro r19 H20 h
    refine GL.call h trivial rfl ok_ref03_with (vs := [slv r17, slv r19]) rfl ?_
    rintro _ H22 ⟨r21, rfl, h⟩
    refine GL.val trivial rfl (OV.assign (v := slv r21) rfl) ?_
    refine GL.nil ?_
    exact GC.ret (fun _ _ hf hs => post_tmp1 rfl rfl hf hs ⟨r21, rfl, h⟩)

def sh_ref02_ints (C : Ctx) (p_a : Int) (p_b : Int) (K : Int → Heap → Prop) (H : Heap) : Prop :=
  ift (decide ((p_a : Int) < p_b))
 (K (-1) H)
 (ift (decide ((p_a : Int) > p_b))
 (K 1 H)
 (K 0 H))

theorem ad_ref02_ints (C : Ctx) (p_a : Int) (p_b : Int) (K : Int → Heap → Prop) (H : Heap) (h : sh_ref02_ints C p_a p_b K H) : c_ref02_ints C p_a p_b K H := by
  refine Spec.enter Tryd.func79 rfl Tryd.ntmps79 rfl ?_
  refine GC.sub [(0, .int .i64 p_a), (1, .int .i64 p_b)] ⟨rfl, rfl, trivial⟩ ?_
  refine GC.seq ?_
  refine GC.region ?_
  refine GL.val trivial rfl (OV.assign (v := .int .i64 0) rfl) ?_
  refine GL.nil ?_
  refine GC.seq ?_
  refine GC.seq ?_
  refine GC.region ?_
  refine GL.val trivial rfl (OV.move (v := .int .i64 p_a) rfl) ?_
  refine GL.val trivial rfl (OV.move (v := .int .i64 p_b) rfl) ?_
  refine GL.val trivial rfl (OV.ibin (v := .bool (decide ((p_a : Int) < p_b))) rfl rfl rfl) ?_
  refine GL.nil ?_
  refine GC.cond (b := decide ((p_a : Int) < p_b)) rfl (fun hc1 => ?_) (fun hc1 => ?_)
  · replace h := And.left h hc1
    refine GC.seq ?_
    refine GC.region ?_
    refine GL.val trivial rfl (OV.assign (v := .int .i64 (-1)) rfl) ?_
    refine GL.nil ?_
    exact GC.ret (fun _ _ hf hs => post_tmp1 rfl rfl hf hs ⟨(-1), rfl, h⟩)
  · replace h := And.right h hc1
    refine GC.skip ?_
    refine GC.seq ?_
    refine GC.seq ?_
    refine GC.region ?_
    refine GL.val trivial rfl (OV.move (v := .int .i64 p_a) rfl) ?_
    refine GL.val trivial rfl (OV.move (v := .int .i64 p_b) rfl) ?_
    refine GL.val trivial rfl (OV.ibin (v := .bool (decide ((p_a : Int) > p_b))) rfl rfl rfl) ?_
    refine GL.nil ?_
    refine GC.cond (b := decide ((p_a : Int) > p_b)) rfl (fun hc2 => ?_) (fun hc2 => ?_)
    · replace h := And.left h hc2
      refine GC.seq ?_
      refine GC.region ?_
      refine GL.val trivial rfl (OV.assign (v := .int .i64 1) rfl) ?_
      refine GL.nil ?_
      exact GC.ret (fun _ _ hf hs => post_tmp1 rfl rfl hf hs ⟨1, rfl, h⟩)
    · replace h := And.right h hc2
      refine GC.skip ?_
      refine GC.seq ?_
      refine GC.region ?_
      refine GL.val trivial rfl (OV.assign (v := .int .i64 0) rfl) ?_
      refine GL.nil ?_
      exact GC.ret (fun _ _ hf hs => post_tmp1 rfl rfl hf hs ⟨0, rfl, h⟩)

def sh_ref02_Bigs (C : Ctx) (p_a : Str) (p_b : Str) (K : Int → Heap → Prop) (H : Heap) : Prop :=
  ixs p_a 0 fun c1 =>
 ixs p_b 0 fun c4 =>
 ift (!((((c1.toNat : Int) : Int) == 45) == (((c4.toNat : Int) : Int) == 45)))
 (ift (((c1.toNat : Int) : Int) == 45)
 (K (-1) H)
 (K 1 H))
 (ift (((c1.toNat : Int) : Int) == 45)
 (dr H fun Hs10 =>
 slS p_b 1 (List.length p_b : Int) fun t12 =>
 slS p_a 1 (List.length p_a : Int) fun t18 =>
 c_ref02_Bigs C t12 t18 (fun r25 H26 =>
 Heap.le Hs10 H26 ∧
 K r25 H26) H)
 (ift (((List.length p_a : Int) : Int) != (List.length p_b : Int))
 (c_ref02_ints C (List.length p_a : Int) (List.length p_b : Int) (fun r28 H29 =>
 K r28 H29) H)
 (c_ref02_texts C p_a p_b (fun r30 H31 =>
 K r30 H31) H)))

theorem ad_ref02_Bigs (C : Ctx) (p_a : Str) (p_b : Str) (K : Int → Heap → Prop) (H : Heap) (h : sh_ref02_Bigs C p_a p_b K H) : c_ref02_Bigs C p_a p_b K H := by
  refine Spec.enter Tryd.func80 rfl Tryd.ntmps80 rfl ?_
  refine GC.sub [(0, sv p_a), (1, sv p_b)] ⟨rfl, rfl, trivial⟩ ?_
  refine GC.seq ?_
  refine GC.region ?_
  refine GL.val trivial rfl (OV.assign (v := .int .i64 0) rfl) ?_
  refine GL.nil ?_
  refine GC.seq ?_
  refine GC.draw (by kernel_rfl) (by kernel_rfl) ?_
  refine GQ.val trivial rfl (OV.move (v := sv p_a) rfl) ?_
  obtain ⟨c1, ha2, hb3, h⟩ := h
  refine GQ.val trivial rfl (OV.indexStr (s := p_a) rfl rfl rfl ha2 hb3) ?_
  refine GQ.val trivial rfl (OV.ibin (v := .bool (((c1.toNat : Int) : Int) == 45)) rfl rfl rfl) ?_
  refine GQ.val trivial rfl (OV.move (v := sv p_b) rfl) ?_
  obtain ⟨c4, ha5, hb6, h⟩ := h
  refine GQ.val trivial rfl (OV.indexStr (s := p_b) rfl rfl rfl ha5 hb6) ?_
  refine GQ.val trivial rfl (OV.ibin (v := .bool (((c4.toNat : Int) : Int) == 45)) rfl rfl rfl) ?_
  refine GQ.val trivial rfl (OV.assign (v := .bool (((c1.toNat : Int) : Int) == 45)) rfl) ?_
  refine GQ.val trivial rfl (OV.assign (v := .bool (((c4.toNat : Int) : Int) == 45)) rfl) ?_
  refine GQ.nil ?_
  refine GL.nil ?_
  refine GC.seq ?_
  refine GC.seq ?_
  refine GC.region ?_
  refine GL.val trivial rfl (OV.move (v := .bool (((c1.toNat : Int) : Int) == 45)) rfl) ?_
  refine GL.val trivial rfl (OV.move (v := .bool (((c4.toNat : Int) : Int) == 45)) rfl) ?_
  refine GL.val trivial rfl (OV.neqBool rfl rfl rfl) ?_
  refine GL.nil ?_
  refine GC.cond (b := !((((c1.toNat : Int) : Int) == 45) == (((c4.toNat : Int) : Int) == 45))) rfl (fun hc7 => ?_) (fun hc7 => ?_)
  · replace h := And.left h hc7
    refine GC.seq ?_
    refine GC.seq ?_
    refine GC.region ?_
    refine GL.val trivial rfl (OV.move (v := .bool (((c1.toNat : Int) : Int) == 45)) rfl) ?_
    refine GL.nil ?_
    refine GC.cond (b := ((c1.toNat : Int) : Int) == 45) rfl (fun hc8 => ?_) (fun hc8 => ?_)
    · replace h := And.left h hc8
      refine GC.seq ?_
      refine GC.region ?_
      refine GL.val trivial rfl (OV.assign (v := .int .i64 (-1)) rfl) ?_
      refine GL.nil ?_
      exact GC.ret (fun _ _ hf hs => post_tmp1 rfl rfl hf hs ⟨(-1), rfl, h⟩)
    · replace h := And.right h hc8
      refine GC.skip ?_
      refine GC.seq ?_
      refine GC.region ?_
      refine GL.val trivial rfl (OV.assign (v := .int .i64 1) rfl) ?_
      refine GL.nil ?_
      exact GC.ret (fun _ _ hf hs => post_tmp1 rfl rfl hf hs ⟨1, rfl, h⟩)
  · replace h := And.right h hc7
    refine GC.skip ?_
    refine GC.seq ?_
    refine GC.seq ?_
    refine GC.region ?_
    refine GL.val trivial rfl (OV.move (v := .bool (((c1.toNat : Int) : Int) == 45)) rfl) ?_
    refine GL.nil ?_
    refine GC.cond (b := ((c1.toNat : Int) : Int) == 45) rfl (fun hc9 => ?_) (fun hc9 => ?_)
    · replace h := And.left h hc9
      refine GC.seq ?_
      obtain ⟨Hs10, hle11, h⟩ := h
      refine GC.any (Hs := Hs10) (by kernel_rfl) hle11 ?_
      refine GA.take 0 rfl (by kernel_rfl) (by kernel_rfl) (by kernel_rfl) (fun _ _ _ h => by obtain ⟨_, _, _, h, _⟩ := h; cases h) trivial rfl (OV.move (v := sv p_b) rfl) ?_
      obtain ⟨h13, h14, h15, t12, h16, h⟩ := h
      refine GA.take 1 rfl (by kernel_rfl) (by kernel_rfl) (by kernel_rfl) (fun _ _ _ h => by obtain ⟨_, _, _, h, _⟩ := h; cases h) trivial rfl (OV.sliceStr (s := p_b) h13 h14 h15 h16 rfl rfl rfl rfl rfl rfl) ?_
      refine GA.take 2 rfl (by kernel_rfl) (by kernel_rfl) (by kernel_rfl) (fun _ _ _ h => by obtain ⟨_, _, _, h, _⟩ := h; cases h) trivial rfl (OV.move (v := sv p_a) rfl) ?_
      obtain ⟨h19, h20, h21, t18, h22, h⟩ := h
      refine GA.take 3 rfl (by kernel_rfl) (by kernel_rfl) (by kernel_rfl) (fun _ _ _ h => by obtain ⟨_, _, _, h, _⟩ := h; cases h) trivial rfl (OV.sliceStr (s := p_a) h19 h20 h21 h22 rfl rfl rfl rfl rfl rfl) ?_
      refine GA.eff 4 rfl (by kernel_rfl) ?_
      refine GL.call h trivial rfl ok_ref02_Bigs (vs := [sv t12, sv t18]) rfl ?_
      rintro _ H26 ⟨r25, rfl, h⟩
      obtain ⟨hle24, h⟩ := h
      refine GA.back hle24 ?_
      refine GA.take 5 rfl (by kernel_rfl) (by kernel_rfl) (by kernel_rfl) (fun _ _ _ h => by obtain ⟨_, _, _, h, _⟩ := h; cases h) trivial rfl (OV.assign (v := .int .i64 r25) rfl) ?_
      refine GA.done (by kernel_rfl) ?_
      refine GL.nil ?_
      exact GC.ret (fun _ _ hf hs => post_tmp1 rfl rfl hf hs ⟨r25, rfl, h⟩)
    · replace h := And.right h hc9
      refine GC.skip ?_
      refine GC.seq ?_
      refine GC.seq ?_
      refine GC.region ?_
      refine GL.val trivial rfl (OV.move (v := sv p_a) rfl) ?_
      refine GL.val trivial rfl (OV.lenStr (s := p_a) rfl rfl) ?_
      refine GL.val trivial rfl (OV.move (v := sv p_b) rfl) ?_
      refine GL.val trivial rfl (OV.lenStr (s := p_b) rfl rfl) ?_
      refine GL.val trivial rfl (OV.ibin (v := .bool (((List.length p_a : Int) : Int) != (List.length p_b : Int))) rfl rfl rfl) ?_
      refine GL.nil ?_
      refine GC.cond (b := ((List.length p_a : Int) : Int) != (List.length p_b : Int)) rfl (fun hc27 => ?_) (fun hc27 => ?_)
      · replace h := And.left h hc27
        refine GC.seq ?_
        refine GC.region ?_
        refine GL.val trivial rfl (OV.move (v := sv p_a) rfl) ?_
        refine GL.val trivial rfl (OV.lenStr (s := p_a) rfl rfl) ?_
        refine GL.val trivial rfl (OV.move (v := sv p_b) rfl) ?_
        refine GL.val trivial rfl (OV.lenStr (s := p_b) rfl rfl) ?_
        refine GL.call h trivial rfl ok_ref02_ints (vs := [.int .i64 (List.length p_a : Int), .int .i64 (List.length p_b : Int)]) rfl ?_
        rintro _ H29 ⟨r28, rfl, h⟩
        refine GL.val trivial rfl (OV.assign (v := .int .i64 r28) rfl) ?_
        refine GL.nil ?_
        exact GC.ret (fun _ _ hf hs => post_tmp1 rfl rfl hf hs ⟨r28, rfl, h⟩)
      · replace h := And.right h hc27
        refine GC.skip ?_
        refine GC.seq ?_
        refine GC.region ?_
        refine GL.val trivial rfl (OV.move (v := sv p_a) rfl) ?_
        refine GL.val trivial rfl (OV.move (v := sv p_b) rfl) ?_
        refine GL.call h trivial rfl ok_ref02_texts (vs := [sv p_a, sv p_b]) rfl ?_
        rintro _ H31 ⟨r30, rfl, h⟩
        refine GL.val trivial rfl (OV.assign (v := .int .i64 r30) rfl) ?_
        refine GL.nil ?_
        exact GC.ret (fun _ _ hf hs => post_tmp1 rfl rfl hf hs ⟨r30, rfl, h⟩)

def sh_ref02_texts (C : Ctx) (p_a : Str) (p_b : Str) (K : Int → Heap → Prop) (H : Heap) : Prop :=
  lp (α := Int) 0 H (fun x1 J2 H3 =>
 ift ((decide ((x1 : Int) < (List.length p_a : Int))) && (decide ((x1 : Int) < (List.length p_b : Int))))
 (ixs p_a x1 fun c6 =>
 ixs p_b x1 fun c9 =>
 ift (((c6.toNat : Int) : Int) != (c9.toNat : Int))
 (dr H3 fun Hs13 =>
 ixs p_a x1 fun c15 =>
 ixs p_b x1 fun c18 =>
 c_ref02_ints C (w .i64 (c15.toNat : Int)) (w .i64 (c18.toNat : Int)) (fun r22 H23 =>
 Heap.le Hs13 H23 ∧
 K r22 H23) H3)
 (J2 (w .i64 (x1 + 1)) H3))
 (c_ref02_ints C (List.length p_a : Int) (List.length p_b : Int) (fun r24 H25 =>
 K r24 H25) H3))

theorem ad_ref02_texts (C : Ctx) (p_a : Str) (p_b : Str) (K : Int → Heap → Prop) (H : Heap) (h : sh_ref02_texts C p_a p_b K H) : c_ref02_texts C p_a p_b K H := by
  refine Spec.enter Tryd.func81 rfl Tryd.ntmps81 rfl ?_
  refine GC.sub [(0, sv p_a), (1, sv p_b)] ⟨rfl, rfl, trivial⟩ ?_
  refine GC.seq ?_
  refine GC.region ?_
  refine GL.val trivial rfl (OV.assign (v := .int .i64 0) rfl) ?_
  refine GL.nil ?_
  refine GC.seq ?_
  refine GC.seq ?_
  refine GC.region ?_
  refine GL.val trivial rfl (OV.assign (v := .int .i64 0) rfl) ?_
  refine GL.nil ?_
  refine GC.block ?_
  refine GC.loop (α := Int) h (fun x1 => [(5, .int .i64 x1), (0, sv p_a), (1, sv p_b)]) ⟨rfl, rfl, rfl, trivial⟩ ?_
  intro x1 H3 J2 h
  refine GC.seq ?_
  refine GC.seq ?_
  refine GC.region ?_
  refine GL.val trivial rfl (OV.move (v := .int .i64 x1) rfl) ?_
  refine GL.val trivial rfl (OV.move (v := sv p_a) rfl) ?_
  refine GL.val trivial rfl (OV.lenStr (s := p_a) rfl rfl) ?_
  refine GL.val trivial rfl (OV.ibin (v := .bool (decide ((x1 : Int) < (List.length p_a : Int)))) rfl rfl rfl) ?_
  refine GL.val trivial rfl (OV.move (v := .bool (decide ((x1 : Int) < (List.length p_a : Int)))) rfl) ?_
  refine GL.cut0 5 [(15, .bool ((decide ((x1 : Int) < (List.length p_a : Int))) && (decide ((x1 : Int) < (List.length p_b : Int))))), (0, sv p_a), (1, sv p_b), (5, .int .i64 x1)] ?_ ?_
  · rcases Bool.eq_false_or_eq_true (decide ((x1 : Int) < (List.length p_a : Int))) with hc4 | hc4
    · skip
      refine GL.val ⟨_, _, rfl, rfl, hc4⟩ rfl (OV.move (v := .int .i64 x1) rfl) ?_
      refine GL.val ⟨_, _, rfl, rfl, hc4⟩ rfl (OV.move (v := sv p_b) rfl) ?_
      refine GL.val ⟨_, _, rfl, rfl, hc4⟩ rfl (OV.lenStr (s := p_b) rfl rfl) ?_
      refine GL.val ⟨_, _, rfl, rfl, hc4⟩ rfl (OV.ibin (v := .bool (decide ((x1 : Int) < (List.length p_b : Int)))) rfl rfl rfl) ?_
      refine GL.val trivial rfl (OV.pickT (b := decide ((x1 : Int) < (List.length p_a : Int))) (v := .bool (decide ((x1 : Int) < (List.length p_b : Int)))) rfl hc4 rfl) ?_
      exact GL.jump0 (fun _ _ h => h) () rfl ⟨(by rw [hc4]; rfl), rfl, rfl, rfl, trivial⟩
    · skip
      refine GL.skip ⟨_, rfl, .inl ⟨_, rfl, hc4⟩⟩ rfl ?_
      refine GL.skip ⟨_, rfl, .inl ⟨_, rfl, hc4⟩⟩ rfl ?_
      refine GL.skip ⟨_, rfl, .inl ⟨_, rfl, hc4⟩⟩ rfl ?_
      refine GL.skip ⟨_, rfl, .inl ⟨_, rfl, hc4⟩⟩ rfl ?_
      refine GL.val trivial rfl (OV.pickF (b := decide ((x1 : Int) < (List.length p_a : Int))) (v := .bool false) rfl hc4 rfl) ?_
      exact GL.jump0 (fun _ _ h => h) () rfl ⟨(by rw [hc4]; rfl), rfl, rfl, rfl, trivial⟩
  refine GL.nil ?_
  refine GC.cond (b := (decide ((x1 : Int) < (List.length p_a : Int))) && (decide ((x1 : Int) < (List.length p_b : Int)))) rfl (fun hc5 => ?_) (fun hc5 => ?_)
  · replace h := And.left h hc5
    refine GC.skip ?_
    refine GC.seq ?_
    refine GC.block ?_
    refine GC.seq ?_
    refine GC.draw (by kernel_rfl) (by kernel_rfl) ?_
    refine GQ.val trivial rfl (OV.move (v := sv p_a) rfl) ?_
    refine GQ.val trivial rfl (OV.move (v := .int .i64 x1) rfl) ?_
    obtain ⟨c6, ha7, hb8, h⟩ := h
    refine GQ.val trivial rfl (OV.indexStr (s := p_a) rfl rfl rfl ha7 hb8) ?_
    refine GQ.val trivial rfl (OV.move (v := sv p_b) rfl) ?_
    refine GQ.val trivial rfl (OV.move (v := .int .i64 x1) rfl) ?_
    obtain ⟨c9, ha10, hb11, h⟩ := h
    refine GQ.val trivial rfl (OV.indexStr (s := p_b) rfl rfl rfl ha10 hb11) ?_
    refine GQ.val trivial rfl (OV.ibin (v := .bool (((c6.toNat : Int) : Int) != (c9.toNat : Int))) rfl rfl rfl) ?_
    refine GQ.nil ?_
    refine GL.nil ?_
    refine GC.cond (b := ((c6.toNat : Int) : Int) != (c9.toNat : Int)) rfl (fun hc12 => ?_) (fun hc12 => ?_)
    · replace h := And.left h hc12
      refine GC.seq ?_
      obtain ⟨Hs13, hle14, h⟩ := h
      refine GC.any (Hs := Hs13) (by kernel_rfl) hle14 ?_
      refine GA.take 0 rfl (by kernel_rfl) (by kernel_rfl) (by kernel_rfl) (fun _ _ _ h => by obtain ⟨_, _, _, h, _⟩ := h; cases h) trivial rfl (OV.move (v := sv p_a) rfl) ?_
      refine GA.take 1 rfl (by kernel_rfl) (by kernel_rfl) (by kernel_rfl) (fun _ _ _ h => by obtain ⟨_, _, _, h, _⟩ := h; cases h) trivial rfl (OV.move (v := .int .i64 x1) rfl) ?_
      obtain ⟨c15, ha16, hb17, h⟩ := h
      refine GA.take 2 rfl (by kernel_rfl) (by kernel_rfl) (by kernel_rfl) (fun _ _ _ h => by obtain ⟨_, _, _, h, _⟩ := h; cases h) trivial rfl (OV.indexStr (s := p_a) rfl rfl rfl ha16 hb17) ?_
      refine GA.take 3 rfl (by kernel_rfl) (by kernel_rfl) (by kernel_rfl) (fun _ _ _ h => by obtain ⟨_, _, _, h, _⟩ := h; cases h) trivial rfl (OV.convInt rfl rfl rfl) ?_
      refine GA.take 4 rfl (by kernel_rfl) (by kernel_rfl) (by kernel_rfl) (fun _ _ _ h => by obtain ⟨_, _, _, h, _⟩ := h; cases h) trivial rfl (OV.move (v := sv p_b) rfl) ?_
      refine GA.take 5 rfl (by kernel_rfl) (by kernel_rfl) (by kernel_rfl) (fun _ _ _ h => by obtain ⟨_, _, _, h, _⟩ := h; cases h) trivial rfl (OV.move (v := .int .i64 x1) rfl) ?_
      obtain ⟨c18, ha19, hb20, h⟩ := h
      refine GA.take 6 rfl (by kernel_rfl) (by kernel_rfl) (by kernel_rfl) (fun _ _ _ h => by obtain ⟨_, _, _, h, _⟩ := h; cases h) trivial rfl (OV.indexStr (s := p_b) rfl rfl rfl ha19 hb20) ?_
      refine GA.take 7 rfl (by kernel_rfl) (by kernel_rfl) (by kernel_rfl) (fun _ _ _ h => by obtain ⟨_, _, _, h, _⟩ := h; cases h) trivial rfl (OV.convInt rfl rfl rfl) ?_
      refine GA.eff 8 rfl (by kernel_rfl) ?_
      refine GL.call h trivial rfl ok_ref02_ints (vs := [.int .i64 (w .i64 (c15.toNat : Int)), .int .i64 (w .i64 (c18.toNat : Int))]) rfl ?_
      rintro _ H23 ⟨r22, rfl, h⟩
      obtain ⟨hle21, h⟩ := h
      refine GA.back hle21 ?_
      refine GA.take 9 rfl (by kernel_rfl) (by kernel_rfl) (by kernel_rfl) (fun _ _ _ h => by obtain ⟨_, _, _, h, _⟩ := h; cases h) trivial rfl (OV.assign (v := .int .i64 r22) rfl) ?_
      refine GA.done (by kernel_rfl) ?_
      refine GL.nil ?_
      exact GC.ret (fun _ _ hf hs => post_tmp1 rfl rfl hf hs ⟨r22, rfl, h⟩)
    · replace h := And.right h hc12
      refine GC.skip_to (fun _ _ h => h) ?_
      refine GC.region ?_
      refine GL.val trivial rfl (OV.move (v := .int .i64 x1) rfl) ?_
      refine GL.val trivial rfl (OV.ibin (v := .int .i64 (w .i64 (x1 + 1))) rfl rfl rfl) ?_
      refine GL.val trivial rfl (OV.assign (v := .int .i64 (w .i64 (x1 + 1))) rfl) ?_
      exact GL.jump (fun _ _ h => h) (w .i64 (x1 + 1)) h ⟨rfl, rfl, rfl, trivial⟩
  · replace h := And.right h hc5
    refine GC.exit_to (fun _ _ h => h) ?_
    refine GC.seq ?_
    refine GC.region ?_
    refine GL.val trivial rfl (OV.move (v := sv p_a) rfl) ?_
    refine GL.val trivial rfl (OV.lenStr (s := p_a) rfl rfl) ?_
    refine GL.val trivial rfl (OV.move (v := sv p_b) rfl) ?_
    refine GL.val trivial rfl (OV.lenStr (s := p_b) rfl rfl) ?_
    refine GL.call h trivial rfl ok_ref02_ints (vs := [.int .i64 (List.length p_a : Int), .int .i64 (List.length p_b : Int)]) rfl ?_
    rintro _ H25 ⟨r24, rfl, h⟩
    refine GL.val trivial rfl (OV.assign (v := .int .i64 r24) rfl) ?_
    refine GL.nil ?_
    exact GC.ret (fun _ _ hf hs => post_tmp1 rfl rfl hf hs ⟨r24, rfl, h⟩)

def sh_ref02_Number (C : Ctx) (p_s : Str) (K : Bool → Heap → Prop) (H : Heap) : Prop :=
  jn (α := Str) (fun x2 H3 =>
 jn (α := Bool) (fun b24 H36 =>
 ift b24
 (K false H36)
 (lp (α := Int) 0 H36 (fun x38 J39 H40 =>
 ift (decide ((x38 : Int) < (List.length x2 : Int)))
 (ixs x2 x38 fun c42 =>
 jn (α := Bool) (fun b45 H52 =>
 ift b45
 (K false H52)
 (J39 (w .i64 (x38 + 1)) H52))
 (fun J46 => ift (decide (((c42.toNat : Int) : Int) < 48))
 (J46 true H40)
 (ixs x2 x38 fun c49 =>
 J46 (decide (((c49.toNat : Int) : Int) > 57)) H40)))
 (K true H40))))
 (fun J25 => ift (x2 == ([] : Str))
 (J25 true H3)
 (jn (α := Bool) (fun b28 H35 =>
 J25 b28 H35)
 (fun J29 => ift (decide (((List.length x2 : Int) : Int) > 1))
 (ixs x2 0 fun c32 =>
 J29 (((c32.toNat : Int) : Int) == 48) H3)
 (J29 false H3)))))
 (fun J1 => jn (α := Bool) (fun b5 H12 =>
 ift b5
 (slS p_s 1 (List.length p_s : Int) fun t14 =>
 ixs t14 0 fun c20 =>
 ift (((c20.toNat : Int) : Int) == 48)
 (K false H12)
 (J1 t14 H12))
 (J1 p_s H12))
 (fun J6 => ift (decide (((List.length p_s : Int) : Int) > 1))
 (ixs p_s 0 fun c9 =>
 J6 (((c9.toNat : Int) : Int) == 45) H)
 (J6 false H)))

theorem ad_ref02_Number (C : Ctx) (p_s : Str) (K : Bool → Heap → Prop) (H : Heap) (h : sh_ref02_Number C p_s K H) : c_ref02_Number C p_s K H := by
  refine Spec.enter Tryd.func82 rfl Tryd.ntmps82 rfl ?_
  refine GC.sub [(0, sv p_s)] ⟨rfl, trivial⟩ ?_
  refine GC.seq ?_
  refine GC.region ?_
  refine GL.val trivial rfl (OV.assign (v := .bool false) rfl) ?_
  refine GL.nil ?_
  obtain ⟨J1, h, hR4⟩ := h
  refine GC.join (α := Str) J1 (fun x2 => [(0, sv x2)]) ?_ ?_
  · skip
    refine GC.seq ?_
    refine GC.region ?_
    refine GL.val trivial rfl (OV.move (v := sv p_s) rfl) ?_
    refine GL.val trivial rfl (OV.lenStr (s := p_s) rfl rfl) ?_
    refine GL.val trivial rfl (OV.ibin (v := .bool (decide (((List.length p_s : Int) : Int) > 1))) rfl rfl rfl) ?_
    refine GL.val trivial rfl (OV.move (v := .bool (decide (((List.length p_s : Int) : Int) > 1))) rfl) ?_
    obtain ⟨J6, h, hR7⟩ := h
    refine GL.cut (α := Bool) 4 J6 (fun b5 => [(11, .bool b5), (0, sv p_s)]) ?_ ?_
    · rcases Bool.eq_false_or_eq_true (decide (((List.length p_s : Int) : Int) > 1)) with hc8 | hc8
      · skip
        replace h := And.left h hc8
        refine GL.val ⟨_, _, rfl, rfl, hc8⟩ rfl (OV.move (v := sv p_s) rfl) ?_
        obtain ⟨c9, ha10, hb11, h⟩ := h
        refine GL.val ⟨_, _, rfl, rfl, hc8⟩ rfl (OV.indexStr (s := p_s) rfl rfl rfl ha10 hb11) ?_
        refine GL.val ⟨_, _, rfl, rfl, hc8⟩ rfl (OV.ibin (v := .bool (((c9.toNat : Int) : Int) == 45)) rfl rfl rfl) ?_
        refine GL.val trivial rfl (OV.pickT (b := decide (((List.length p_s : Int) : Int) > 1)) (v := .bool (((c9.toNat : Int) : Int) == 45)) rfl hc8 rfl) ?_
        exact GL.jump (fun _ _ h => h) (((c9.toNat : Int) : Int) == 45) h ⟨rfl, rfl, trivial⟩
      · skip
        replace h := And.right h hc8
        refine GL.skip ⟨_, rfl, .inl ⟨_, rfl, hc8⟩⟩ rfl ?_
        refine GL.skip ⟨_, rfl, .inl ⟨_, rfl, hc8⟩⟩ rfl ?_
        refine GL.skip ⟨_, rfl, .inl ⟨_, rfl, hc8⟩⟩ rfl ?_
        refine GL.val trivial rfl (OV.pickF (b := decide (((List.length p_s : Int) : Int) > 1)) (v := .bool false) rfl hc8 rfl) ?_
        exact GL.jump (fun _ _ h => h) false h ⟨rfl, rfl, trivial⟩
    intro b5 H12 h
    replace h := hR7 b5 H12 h
    refine GL.nil ?_
    refine GC.cond (b := b5) rfl (fun hc13 => ?_) (fun hc13 => ?_)
    · replace h := And.left h hc13
      refine GC.seq ?_
      refine GC.region ?_
      refine GL.val trivial rfl (OV.move (v := sv p_s) rfl) ?_
      obtain ⟨h15, h16, h17, t14, h18, h⟩ := h
      refine GL.val trivial rfl (OV.sliceStr (s := p_s) h15 h16 h17 h18 rfl rfl rfl rfl rfl rfl) ?_
      refine GL.val trivial rfl (OV.assign (v := sv t14) rfl) ?_
      refine GL.nil ?_
      refine GC.seq ?_
      refine GC.region ?_
      refine GL.val trivial rfl (OV.move (v := sv t14) rfl) ?_
      obtain ⟨c20, ha21, hb22, h⟩ := h
      refine GL.val trivial rfl (OV.indexStr (s := t14) rfl rfl rfl ha21 hb22) ?_
      refine GL.val trivial rfl (OV.ibin (v := .bool (((c20.toNat : Int) : Int) == 48)) rfl rfl rfl) ?_
      refine GL.nil ?_
      refine GC.cond (b := ((c20.toNat : Int) : Int) == 48) rfl (fun hc23 => ?_) (fun hc23 => ?_)
      · replace h := And.left h hc23
        refine GC.seq ?_
        refine GC.region ?_
        refine GL.val trivial rfl (OV.assign (v := .bool false) rfl) ?_
        refine GL.nil ?_
        exact GC.ret (fun _ _ hf hs => post_tmp1 rfl rfl hf hs ⟨false, rfl, h⟩)
      · replace h := And.right h hc23
        exact GC.jump (fun _ _ h => h) t14 h ⟨rfl, trivial⟩
    · replace h := And.right h hc13
      exact GC.jump (fun _ _ h => h) p_s h ⟨rfl, trivial⟩
  · intro x2 H3 h
    replace h := hR4 x2 H3 h
    refine GC.seq ?_
    refine GC.seq ?_
    refine GC.region ?_
    refine GL.val trivial rfl (OV.move (v := sv x2) rfl) ?_
    refine GL.val trivial rfl (OV.sbin (a := x2) (b := ([] : Str)) (v := .bool (x2 == ([] : Str))) rfl rfl rfl) ?_
    refine GL.val trivial rfl (OV.move (v := .bool (x2 == ([] : Str))) rfl) ?_
    obtain ⟨J25, h, hR26⟩ := h
    refine GL.cut (α := Bool) 9 J25 (fun b24 => [(28, .bool b24), (0, sv x2)]) ?_ ?_
    · rcases Bool.eq_false_or_eq_true (x2 == ([] : Str)) with hc27 | hc27
      · skip
        replace h := And.left h hc27
        refine GL.skip ⟨_, rfl, .inl ⟨_, rfl, hc27⟩⟩ rfl ?_
        refine GL.skip ⟨_, rfl, .inl ⟨_, rfl, hc27⟩⟩ rfl ?_
        refine GL.skip ⟨_, rfl, .inl ⟨_, rfl, hc27⟩⟩ rfl ?_
        refine GL.skip ⟨_, rfl, .inl ⟨_, rfl, hc27⟩⟩ rfl ?_
        refine GL.skip ⟨_, rfl, .inr rfl⟩ rfl ?_
        refine GL.skip ⟨_, rfl, .inr rfl⟩ rfl ?_
        refine GL.skip ⟨_, rfl, .inr rfl⟩ rfl ?_
        refine GL.skip ⟨_, rfl, .inl ⟨_, rfl, hc27⟩⟩ rfl ?_
        refine GL.val trivial rfl (OV.pickT (b := x2 == ([] : Str)) (v := .bool true) rfl hc27 rfl) ?_
        exact GL.jump (fun _ _ h => h) true h ⟨rfl, rfl, trivial⟩
      · skip
        replace h := And.right h hc27
        refine GL.val ⟨_, _, rfl, rfl, hc27⟩ rfl (OV.move (v := sv x2) rfl) ?_
        refine GL.val ⟨_, _, rfl, rfl, hc27⟩ rfl (OV.lenStr (s := x2) rfl rfl) ?_
        refine GL.val ⟨_, _, rfl, rfl, hc27⟩ rfl (OV.ibin (v := .bool (decide (((List.length x2 : Int) : Int) > 1))) rfl rfl rfl) ?_
        refine GL.val ⟨_, _, rfl, rfl, hc27⟩ rfl (OV.move (v := .bool (decide (((List.length x2 : Int) : Int) > 1))) rfl) ?_
        obtain ⟨J29, h, hR30⟩ := h
        refine GL.cut (α := Bool) 4 J29 (fun b28 => [(27, .bool b28), (0, sv x2), (19, .bool (x2 == ([] : Str)))]) ?_ ?_
        · rcases Bool.eq_false_or_eq_true (decide (((List.length x2 : Int) : Int) > 1)) with hc31 | hc31
          · skip
            replace h := And.left h hc31
            refine GL.val ⟨_, _, rfl, rfl, hc31⟩ rfl (OV.move (v := sv x2) rfl) ?_
            obtain ⟨c32, ha33, hb34, h⟩ := h
            refine GL.val ⟨_, _, rfl, rfl, hc31⟩ rfl (OV.indexStr (s := x2) rfl rfl rfl ha33 hb34) ?_
            refine GL.val ⟨_, _, rfl, rfl, hc31⟩ rfl (OV.ibin (v := .bool (((c32.toNat : Int) : Int) == 48)) rfl rfl rfl) ?_
            refine GL.val ⟨_, _, rfl, rfl, hc27⟩ rfl (OV.pickT (b := decide (((List.length x2 : Int) : Int) > 1)) (v := .bool (((c32.toNat : Int) : Int) == 48)) rfl hc31 rfl) ?_
            exact GL.jump (fun _ _ h => h) (((c32.toNat : Int) : Int) == 48) h ⟨rfl, rfl, rfl, trivial⟩
          · skip
            replace h := And.right h hc31
            refine GL.skip ⟨_, rfl, .inl ⟨_, rfl, hc31⟩⟩ rfl ?_
            refine GL.skip ⟨_, rfl, .inl ⟨_, rfl, hc31⟩⟩ rfl ?_
            refine GL.skip ⟨_, rfl, .inl ⟨_, rfl, hc31⟩⟩ rfl ?_
            refine GL.val ⟨_, _, rfl, rfl, hc27⟩ rfl (OV.pickF (b := decide (((List.length x2 : Int) : Int) > 1)) (v := .bool false) rfl hc31 rfl) ?_
            exact GL.jump (fun _ _ h => h) false h ⟨rfl, rfl, rfl, trivial⟩
        intro b28 H35 h
        replace h := hR30 b28 H35 h
        refine GL.val trivial rfl (OV.pickF (b := x2 == ([] : Str)) (v := .bool b28) rfl hc27 rfl) ?_
        exact GL.jump (fun _ _ h => h) b28 h ⟨rfl, rfl, trivial⟩
    intro b24 H36 h
    replace h := hR26 b24 H36 h
    refine GL.nil ?_
    refine GC.cond (b := b24) rfl (fun hc37 => ?_) (fun hc37 => ?_)
    · replace h := And.left h hc37
      refine GC.seq ?_
      refine GC.region ?_
      refine GL.val trivial rfl (OV.assign (v := .bool false) rfl) ?_
      refine GL.nil ?_
      exact GC.ret (fun _ _ hf hs => post_tmp1 rfl rfl hf hs ⟨false, rfl, h⟩)
    · replace h := And.right h hc37
      refine GC.skip ?_
      refine GC.seq ?_
      refine GC.seq ?_
      refine GC.region ?_
      refine GL.val trivial rfl (OV.assign (v := .int .i64 0) rfl) ?_
      refine GL.nil ?_
      refine GC.block ?_
      refine GC.loop (α := Int) h (fun x38 => [(3, .int .i64 x38), (0, sv x2)]) ⟨rfl, rfl, trivial⟩ ?_
      intro x38 H40 J39 h
      refine GC.seq ?_
      refine GC.seq ?_
      refine GC.region ?_
      refine GL.val trivial rfl (OV.move (v := .int .i64 x38) rfl) ?_
      refine GL.val trivial rfl (OV.move (v := sv x2) rfl) ?_
      refine GL.val trivial rfl (OV.lenStr (s := x2) rfl rfl) ?_
      refine GL.val trivial rfl (OV.ibin (v := .bool (decide ((x38 : Int) < (List.length x2 : Int)))) rfl rfl rfl) ?_
      refine GL.nil ?_
      refine GC.cond (b := decide ((x38 : Int) < (List.length x2 : Int))) rfl (fun hc41 => ?_) (fun hc41 => ?_)
      · replace h := And.left h hc41
        refine GC.skip ?_
        refine GC.seq ?_
        refine GC.block ?_
        refine GC.seq ?_
        refine GC.region ?_
        refine GL.val trivial rfl (OV.move (v := sv x2) rfl) ?_
        refine GL.val trivial rfl (OV.move (v := .int .i64 x38) rfl) ?_
        obtain ⟨c42, ha43, hb44, h⟩ := h
        refine GL.val trivial rfl (OV.indexStr (s := x2) rfl rfl rfl ha43 hb44) ?_
        refine GL.val trivial rfl (OV.ibin (v := .bool (decide (((c42.toNat : Int) : Int) < 48))) rfl rfl rfl) ?_
        refine GL.val trivial rfl (OV.move (v := .bool (decide (((c42.toNat : Int) : Int) < 48))) rfl) ?_
        obtain ⟨J46, h, hR47⟩ := h
        refine GL.cut (α := Bool) 5 J46 (fun b45 => [(44, .bool b45), (0, sv x2), (3, .int .i64 x38)]) ?_ ?_
        · rcases Bool.eq_false_or_eq_true (decide (((c42.toNat : Int) : Int) < 48)) with hc48 | hc48
          · skip
            replace h := And.left h hc48
            refine GL.skip ⟨_, rfl, .inl ⟨_, rfl, hc48⟩⟩ rfl ?_
            refine GL.skip ⟨_, rfl, .inl ⟨_, rfl, hc48⟩⟩ rfl ?_
            refine GL.skip ⟨_, rfl, .inl ⟨_, rfl, hc48⟩⟩ rfl ?_
            refine GL.skip ⟨_, rfl, .inl ⟨_, rfl, hc48⟩⟩ rfl ?_
            refine GL.val trivial rfl (OV.pickT (b := decide (((c42.toNat : Int) : Int) < 48)) (v := .bool true) rfl hc48 rfl) ?_
            exact GL.jump (fun _ _ h => h) true h ⟨rfl, rfl, rfl, trivial⟩
          · skip
            replace h := And.right h hc48
            refine GL.val ⟨_, _, rfl, rfl, hc48⟩ rfl (OV.move (v := sv x2) rfl) ?_
            refine GL.val ⟨_, _, rfl, rfl, hc48⟩ rfl (OV.move (v := .int .i64 x38) rfl) ?_
            obtain ⟨c49, ha50, hb51, h⟩ := h
            refine GL.val ⟨_, _, rfl, rfl, hc48⟩ rfl (OV.indexStr (s := x2) rfl rfl rfl ha50 hb51) ?_
            refine GL.val ⟨_, _, rfl, rfl, hc48⟩ rfl (OV.ibin (v := .bool (decide (((c49.toNat : Int) : Int) > 57))) rfl rfl rfl) ?_
            refine GL.val trivial rfl (OV.pickF (b := decide (((c42.toNat : Int) : Int) < 48)) (v := .bool (decide (((c49.toNat : Int) : Int) > 57))) rfl hc48 rfl) ?_
            exact GL.jump (fun _ _ h => h) (decide (((c49.toNat : Int) : Int) > 57)) h ⟨rfl, rfl, rfl, trivial⟩
        intro b45 H52 h
        replace h := hR47 b45 H52 h
        refine GL.nil ?_
        refine GC.cond (b := b45) rfl (fun hc53 => ?_) (fun hc53 => ?_)
        · replace h := And.left h hc53
          refine GC.seq ?_
          refine GC.region ?_
          refine GL.val trivial rfl (OV.assign (v := .bool false) rfl) ?_
          refine GL.nil ?_
          exact GC.ret (fun _ _ hf hs => post_tmp1 rfl rfl hf hs ⟨false, rfl, h⟩)
        · replace h := And.right h hc53
          refine GC.skip_to (fun _ _ h => h) ?_
          refine GC.region ?_
          refine GL.val trivial rfl (OV.move (v := .int .i64 x38) rfl) ?_
          refine GL.val trivial rfl (OV.ibin (v := .int .i64 (w .i64 (x38 + 1))) rfl rfl rfl) ?_
          refine GL.val trivial rfl (OV.assign (v := .int .i64 (w .i64 (x38 + 1))) rfl) ?_
          exact GL.jump (fun _ _ h => h) (w .i64 (x38 + 1)) h ⟨rfl, rfl, trivial⟩
      · replace h := And.right h hc41
        refine GC.exit_to (fun _ _ h => h) ?_
        refine GC.seq ?_
        refine GC.region ?_
        refine GL.val trivial rfl (OV.assign (v := .bool true) rfl) ?_
        refine GL.nil ?_
        exact GC.ret (fun _ _ hf hs => post_tmp1 rfl rfl hf hs ⟨true, rfl, h⟩)

def sh_ref02_Names (C : Ctx) (p_s : Str) (K : Bool → Heap → Prop) (H : Heap) : Prop :=
  ift ((p_s == ([116, 114, 117, 101] : Str)) || (p_s == ([102, 97, 108, 115, 101] : Str)))
 (K false H)
 (lp (α := Int) 0 H (fun x3 J4 H5 =>
 ift (decide ((x3 : Int) < (List.length p_s : Int)))
 (ixs p_s x3 fun c7 =>
 ift (((c7.toNat : Int) : Int) == 46)
 (slS p_s 0 x3 fun t11 =>
 c_ref02_Name C t11 (fun r17 H18 =>
 jn (α := Bool) (fun b19 H31 =>
 K b19 H31)
 (fun J20 => ift r17
 (slS p_s (w .i64 (x3 + 1)) (List.length p_s : Int) fun t23 =>
 c_ref02_Name C t23 (fun r29 H30 =>
 J20 r29 H30) H18)
 (J20 false H18))) H5)
 (J4 (w .i64 (x3 + 1)) H5))
 (c_ref02_Name C p_s (fun r32 H33 =>
 K r32 H33) H5)))

theorem ad_ref02_Names (C : Ctx) (p_s : Str) (K : Bool → Heap → Prop) (H : Heap) (h : sh_ref02_Names C p_s K H) : c_ref02_Names C p_s K H := by
  refine Spec.enter Tryd.func83 rfl Tryd.ntmps83 rfl ?_
  refine GC.sub [(0, sv p_s)] ⟨rfl, trivial⟩ ?_
  refine GC.seq ?_
  refine GC.region ?_
  refine GL.val trivial rfl (OV.assign (v := .bool false) rfl) ?_
  refine GL.nil ?_
  refine GC.seq ?_
  refine GC.seq ?_
  refine GC.region ?_
  refine GL.val trivial rfl (OV.move (v := sv p_s) rfl) ?_
  refine GL.val trivial rfl (OV.sbin (a := p_s) (b := ([116, 114, 117, 101] : Str)) (v := .bool (p_s == ([116, 114, 117, 101] : Str))) rfl rfl rfl) ?_
  refine GL.val trivial rfl (OV.move (v := .bool (p_s == ([116, 114, 117, 101] : Str))) rfl) ?_
  refine GL.cut0 3 [(9, .bool ((p_s == ([116, 114, 117, 101] : Str)) || (p_s == ([102, 97, 108, 115, 101] : Str)))), (0, sv p_s)] ?_ ?_
  · rcases Bool.eq_false_or_eq_true (p_s == ([116, 114, 117, 101] : Str)) with hc1 | hc1
    · skip
      refine GL.skip ⟨_, rfl, .inl ⟨_, rfl, hc1⟩⟩ rfl ?_
      refine GL.skip ⟨_, rfl, .inl ⟨_, rfl, hc1⟩⟩ rfl ?_
      refine GL.val trivial rfl (OV.pickT (b := p_s == ([116, 114, 117, 101] : Str)) (v := .bool true) rfl hc1 rfl) ?_
      exact GL.jump0 (fun _ _ h => h) () rfl ⟨(by rw [hc1]; rfl), rfl, trivial⟩
    · skip
      refine GL.val ⟨_, _, rfl, rfl, hc1⟩ rfl (OV.move (v := sv p_s) rfl) ?_
      refine GL.val ⟨_, _, rfl, rfl, hc1⟩ rfl (OV.sbin (a := p_s) (b := ([102, 97, 108, 115, 101] : Str)) (v := .bool (p_s == ([102, 97, 108, 115, 101] : Str))) rfl rfl rfl) ?_
      refine GL.val trivial rfl (OV.pickF (b := p_s == ([116, 114, 117, 101] : Str)) (v := .bool (p_s == ([102, 97, 108, 115, 101] : Str))) rfl hc1 rfl) ?_
      exact GL.jump0 (fun _ _ h => h) () rfl ⟨(by rw [hc1]; rfl), rfl, trivial⟩
  refine GL.nil ?_
  refine GC.cond (b := (p_s == ([116, 114, 117, 101] : Str)) || (p_s == ([102, 97, 108, 115, 101] : Str))) rfl (fun hc2 => ?_) (fun hc2 => ?_)
  · replace h := And.left h hc2
    refine GC.seq ?_
    refine GC.region ?_
    refine GL.val trivial rfl (OV.assign (v := .bool false) rfl) ?_
    refine GL.nil ?_
    exact GC.ret (fun _ _ hf hs => post_tmp1 rfl rfl hf hs ⟨false, rfl, h⟩)
  · replace h := And.right h hc2
    refine GC.skip ?_
    refine GC.seq ?_
    refine GC.seq ?_
    refine GC.region ?_
    refine GL.val trivial rfl (OV.assign (v := .int .i64 0) rfl) ?_
    refine GL.nil ?_
    refine GC.block ?_
    refine GC.loop (α := Int) h (fun x3 => [(3, .int .i64 x3), (0, sv p_s)]) ⟨rfl, rfl, trivial⟩ ?_
    intro x3 H5 J4 h
    refine GC.seq ?_
    refine GC.seq ?_
    refine GC.region ?_
    refine GL.val trivial rfl (OV.move (v := .int .i64 x3) rfl) ?_
    refine GL.val trivial rfl (OV.move (v := sv p_s) rfl) ?_
    refine GL.val trivial rfl (OV.lenStr (s := p_s) rfl rfl) ?_
    refine GL.val trivial rfl (OV.ibin (v := .bool (decide ((x3 : Int) < (List.length p_s : Int)))) rfl rfl rfl) ?_
    refine GL.nil ?_
    refine GC.cond (b := decide ((x3 : Int) < (List.length p_s : Int))) rfl (fun hc6 => ?_) (fun hc6 => ?_)
    · replace h := And.left h hc6
      refine GC.skip ?_
      refine GC.seq ?_
      refine GC.block ?_
      refine GC.seq ?_
      refine GC.region ?_
      refine GL.val trivial rfl (OV.move (v := sv p_s) rfl) ?_
      refine GL.val trivial rfl (OV.move (v := .int .i64 x3) rfl) ?_
      obtain ⟨c7, ha8, hb9, h⟩ := h
      refine GL.val trivial rfl (OV.indexStr (s := p_s) rfl rfl rfl ha8 hb9) ?_
      refine GL.val trivial rfl (OV.ibin (v := .bool (((c7.toNat : Int) : Int) == 46)) rfl rfl rfl) ?_
      refine GL.nil ?_
      refine GC.cond (b := ((c7.toNat : Int) : Int) == 46) rfl (fun hc10 => ?_) (fun hc10 => ?_)
      · replace h := And.left h hc10
        refine GC.seq ?_
        refine GC.region ?_
        refine GL.val trivial rfl (OV.move (v := sv p_s) rfl) ?_
        refine GL.val trivial rfl (OV.move (v := .int .i64 x3) rfl) ?_
        obtain ⟨h12, h13, h14, t11, h15, h⟩ := h
        refine GL.val trivial rfl (OV.sliceStr (s := p_s) h12 h13 h14 h15 rfl rfl rfl rfl rfl rfl) ?_
        refine GL.call h trivial rfl ok_ref02_Name (vs := [sv t11]) rfl ?_
        rintro _ H18 ⟨r17, rfl, h⟩
        refine GL.val trivial rfl (OV.move (v := .bool r17) rfl) ?_
        obtain ⟨J20, h, hR21⟩ := h
        refine GL.cut (α := Bool) 6 J20 (fun b19 => [(30, .bool b19)]) ?_ ?_
        · rcases Bool.eq_false_or_eq_true r17 with hc22 | hc22
          · skip
            replace h := And.left h hc22
            refine GL.val ⟨_, _, rfl, rfl, hc22⟩ rfl (OV.move (v := sv p_s) rfl) ?_
            refine GL.val ⟨_, _, rfl, rfl, hc22⟩ rfl (OV.move (v := .int .i64 x3) rfl) ?_
            refine GL.val ⟨_, _, rfl, rfl, hc22⟩ rfl (OV.ibin (v := .int .i64 (w .i64 (x3 + 1))) rfl rfl rfl) ?_
            obtain ⟨h24, h25, h26, t23, h27, h⟩ := h
            refine GL.val ⟨_, _, rfl, rfl, hc22⟩ rfl (OV.sliceStr (s := p_s) h24 h25 h26 h27 rfl rfl rfl rfl rfl rfl) ?_
            refine GL.call h ⟨_, _, rfl, rfl, hc22⟩ rfl ok_ref02_Name (vs := [sv t23]) rfl ?_
            rintro _ H30 ⟨r29, rfl, h⟩
            refine GL.val trivial rfl (OV.pickT (b := r17) (v := .bool r29) rfl hc22 rfl) ?_
            exact GL.jump (fun _ _ h => h) r29 h ⟨rfl, trivial⟩
          · skip
            replace h := And.right h hc22
            refine GL.skip ⟨_, rfl, .inl ⟨_, rfl, hc22⟩⟩ rfl ?_
            refine GL.skip ⟨_, rfl, .inl ⟨_, rfl, hc22⟩⟩ rfl ?_
            refine GL.skip ⟨_, rfl, .inl ⟨_, rfl, hc22⟩⟩ rfl ?_
            refine GL.skip ⟨_, rfl, .inl ⟨_, rfl, hc22⟩⟩ rfl ?_
            refine GL.skip ⟨_, rfl, .inl ⟨_, rfl, hc22⟩⟩ rfl ?_
            refine GL.val trivial rfl (OV.pickF (b := r17) (v := .bool false) rfl hc22 rfl) ?_
            exact GL.jump (fun _ _ h => h) false h ⟨rfl, trivial⟩
        intro b19 H31 h
        replace h := hR21 b19 H31 h
        refine GL.val trivial rfl (OV.assign (v := .bool b19) rfl) ?_
        refine GL.nil ?_
        exact GC.ret (fun _ _ hf hs => post_tmp1 rfl rfl hf hs ⟨b19, rfl, h⟩)
      · replace h := And.right h hc10
        refine GC.skip_to (fun _ _ h => h) ?_
        refine GC.region ?_
        refine GL.val trivial rfl (OV.move (v := .int .i64 x3) rfl) ?_
        refine GL.val trivial rfl (OV.ibin (v := .int .i64 (w .i64 (x3 + 1))) rfl rfl rfl) ?_
        refine GL.val trivial rfl (OV.assign (v := .int .i64 (w .i64 (x3 + 1))) rfl) ?_
        exact GL.jump (fun _ _ h => h) (w .i64 (x3 + 1)) h ⟨rfl, rfl, trivial⟩
    · replace h := And.right h hc6
      refine GC.exit_to (fun _ _ h => h) ?_
      refine GC.seq ?_
      refine GC.region ?_
      refine GL.val trivial rfl (OV.move (v := sv p_s) rfl) ?_
      refine GL.call h trivial rfl ok_ref02_Name (vs := [sv p_s]) rfl ?_
      rintro _ H33 ⟨r32, rfl, h⟩
      refine GL.val trivial rfl (OV.assign (v := .bool r32) rfl) ?_
      refine GL.nil ?_
      exact GC.ret (fun _ _ hf hs => post_tmp1 rfl rfl hf hs ⟨r32, rfl, h⟩)

def sh_ref02_Digits (C : Ctx) (p_s : Str) (K : Int → Heap → Prop) (H : Heap) : Prop :=
  ixs p_s 0 fun c1 =>
 ift (((c1.toNat : Int) : Int) == 45)
 (K (w .i64 ((List.length p_s : Int) - 1)) H)
 (K (List.length p_s : Int) H)

theorem ad_ref02_Digits (C : Ctx) (p_s : Str) (K : Int → Heap → Prop) (H : Heap) (h : sh_ref02_Digits C p_s K H) : c_ref02_Digits C p_s K H := by
  refine Spec.enter Tryd.func84 rfl Tryd.ntmps84 rfl ?_
  refine GC.sub [(0, sv p_s)] ⟨rfl, trivial⟩ ?_
  refine GC.seq ?_
  refine GC.region ?_
  refine GL.val trivial rfl (OV.assign (v := .int .i64 0) rfl) ?_
  refine GL.nil ?_
  refine GC.seq ?_
  refine GC.seq ?_
  refine GC.region ?_
  refine GL.val trivial rfl (OV.move (v := sv p_s) rfl) ?_
  obtain ⟨c1, ha2, hb3, h⟩ := h
  refine GL.val trivial rfl (OV.indexStr (s := p_s) rfl rfl rfl ha2 hb3) ?_
  refine GL.val trivial rfl (OV.ibin (v := .bool (((c1.toNat : Int) : Int) == 45)) rfl rfl rfl) ?_
  refine GL.nil ?_
  refine GC.cond (b := ((c1.toNat : Int) : Int) == 45) rfl (fun hc4 => ?_) (fun hc4 => ?_)
  · replace h := And.left h hc4
    refine GC.seq ?_
    refine GC.region ?_
    refine GL.val trivial rfl (OV.move (v := sv p_s) rfl) ?_
    refine GL.val trivial rfl (OV.lenStr (s := p_s) rfl rfl) ?_
    refine GL.val trivial rfl (OV.ibin (v := .int .i64 (w .i64 ((List.length p_s : Int) - 1))) rfl rfl rfl) ?_
    refine GL.val trivial rfl (OV.assign (v := .int .i64 (w .i64 ((List.length p_s : Int) - 1))) rfl) ?_
    refine GL.nil ?_
    exact GC.ret (fun _ _ hf hs => post_tmp1 rfl rfl hf hs ⟨(w .i64 ((List.length p_s : Int) - 1)), rfl, h⟩)
  · replace h := And.right h hc4
    refine GC.skip ?_
    refine GC.seq ?_
    refine GC.region ?_
    refine GL.val trivial rfl (OV.move (v := sv p_s) rfl) ?_
    refine GL.val trivial rfl (OV.lenStr (s := p_s) rfl rfl) ?_
    refine GL.val trivial rfl (OV.assign (v := .int .i64 (List.length p_s : Int)) rfl) ?_
    refine GL.nil ?_
    exact GC.ret (fun _ _ hf hs => post_tmp1 rfl rfl hf hs ⟨(List.length p_s : Int), rfl, h⟩)

def sh_code_Reader_truth (C : Ctx) (p_r : Option (Nat × Nat)) (p_v : Option (Nat × Nat)) (p_deep : Int) (K : Heap → Prop) (H : Heap) : Prop :=
  c_code_Reader_Flag C p_r (fun r1 H2 =>
 ift r1
 (nck p_v fun p4 =>
 st (p4.1, p4.2 + 1) (.int .i64 1) (fun H6 =>
 K H6) H2)
 (K H2)) H

theorem ad_code_Reader_truth (C : Ctx) (p_r : Option (Nat × Nat)) (p_v : Option (Nat × Nat)) (p_deep : Int) (K : Heap → Prop) (H : Heap) (h : sh_code_Reader_truth C p_r p_v p_deep K H) : c_code_Reader_truth C p_r p_v p_deep K H := by
  refine Spec.enter Tryd.func85 rfl Tryd.ntmps85 rfl ?_
  refine GC.sub [(0, pv p_r), (1, pv p_v), (2, .int .i64 p_deep)] ⟨rfl, rfl, rfl, trivial⟩ ?_
  refine GC.seq ?_
  refine GC.region ?_
  refine GL.val trivial rfl (OV.move (v := pv p_r) rfl) ?_
  refine GL.call h trivial rfl ok_code_Reader_Flag (vs := [pv p_r]) rfl ?_
  rintro _ H2 ⟨r1, rfl, h⟩
  refine GL.nil ?_
  refine GC.cond (b := r1) rfl (fun hc3 => ?_) (fun hc3 => ?_)
  · replace h := And.left h hc3
    refine GC.region ?_
    refine GL.val trivial rfl (OV.move (v := pv p_v) rfl) ?_
    obtain ⟨p4, hp5, h⟩ := h
    refine GL.val trivial rfl (OV.nilCheck (q := p_v) rfl hp5) ?_
    refine GL.val trivial rfl (OV.fieldAddr (p := p4) rfl rfl) ?_
    refine GL.store (p := (p4.1, p4.2 + 1)) (v := .int .i64 1) h trivial rfl rfl rfl rfl ?_
    intro H6 h
    exact GL.ends (fun _ _ hf hs => post_tmp0 rfl hf hs ⟨rfl, h⟩)
  · replace h := And.right h hc3
    exact GC.ends (fun _ _ hf hs => post_tmp0 rfl hf hs ⟨rfl, h⟩)

def sh_code_Reader_whole (C : Ctx) (p_r : Option (Nat × Nat)) (p_v : Option (Nat × Nat)) (p_deep : Int) (K : Heap → Prop) (H : Heap) : Prop :=
  c_code_Reader_Num C p_r (fun r1 H2 =>
 nck p_v fun p3 =>
 st (p3.1, p3.2 + 1) (.int .i64 r1) (fun H5 =>
 K H5) H2) H

theorem ad_code_Reader_whole (C : Ctx) (p_r : Option (Nat × Nat)) (p_v : Option (Nat × Nat)) (p_deep : Int) (K : Heap → Prop) (H : Heap) (h : sh_code_Reader_whole C p_r p_v p_deep K H) : c_code_Reader_whole C p_r p_v p_deep K H := by
  refine Spec.enter Tryd.func86 rfl Tryd.ntmps86 rfl ?_
  refine GC.sub [(0, pv p_r), (1, pv p_v), (2, .int .i64 p_deep)] ⟨rfl, rfl, rfl, trivial⟩ ?_
  refine GC.region ?_
  refine GL.val trivial rfl (OV.move (v := pv p_v) rfl) ?_
  refine GL.val trivial rfl (OV.move (v := pv p_r) rfl) ?_
  refine GL.call h trivial rfl ok_code_Reader_Num (vs := [pv p_r]) rfl ?_
  rintro _ H2 ⟨r1, rfl, h⟩
  obtain ⟨p3, hp4, h⟩ := h
  refine GL.val trivial rfl (OV.nilCheck (q := p_v) rfl hp4) ?_
  refine GL.val trivial rfl (OV.fieldAddr (p := p3) rfl rfl) ?_
  refine GL.store (p := (p3.1, p3.2 + 1)) (v := .int .i64 r1) h trivial rfl rfl rfl rfl ?_
  intro H5 h
  exact GL.ends (fun _ _ hf hs => post_tmp0 rfl hf hs ⟨rfl, h⟩)

def sh_code_Reader_big (C : Ctx) (p_r : Option (Nat × Nat)) (p_v : Option (Nat × Nat)) (p_deep : Int) (K : Heap → Prop) (H : Heap) : Prop :=
  c_code_Reader_next C p_r (fun r1 H2 =>
 c_code_Reader_ask C p_r (((r1 : Int) == 127) || ((r1 : Int) == 128)) (fun r4 H5 =>
 jn (α := Unit) (fun x7 H8 =>
 c_code_Reader_flip C p_r ((r1 : Int) == 127) (fun H14 =>
 c_code_Reader_Count C p_r 200 (fun r15 H16 =>
 lp (α := Sl × Int) (Sl.nil, 0) H16 (fun x17 J18 H19 =>
 ift (decide ((x17.2 : Int) < r15))
 (c_code_Reader_next C p_r (fun r21 H22 =>
 apd ([.int .u8 0]) 1 x17.1 ([.int .u8 r21]) 1 (fun r23 H24 =>
 J18 (r23, (w .i64 (x17.2 + 1))) H24) H22) H19)
 (c_code_Reader_flip C p_r ((r1 : Int) == 127) (fun H25 =>
 dr H25 fun Hs26 =>
 nck p_v fun p28 =>
 ldS Hs26 (p28.1, p28.2 + 2) fun x30 =>
 b2s x17.1 (fun t32 =>
 catOk x30 t32 ∧
 nck p_v fun p36 =>
 st (p36.1, p36.2 + 2) (sv (x30 ++ t32)) (fun H38 =>
 K H38) H25) Hs26) H19))) H14) H8)
 (fun J6 => ift ((r1 : Int) == 127)
 (nck p_v fun p11 =>
 st (p11.1, p11.2 + 2) (sv [45]) (fun H13 =>
 J6 () H13) H5)
 (J6 () H5))) H2) H

theorem ad_code_Reader_big (C : Ctx) (p_r : Option (Nat × Nat)) (p_v : Option (Nat × Nat)) (p_deep : Int) (K : Heap → Prop) (H : Heap) (h : sh_code_Reader_big C p_r p_v p_deep K H) : c_code_Reader_big C p_r p_v p_deep K H := by
  refine Spec.enter Tryd.func87 rfl Tryd.ntmps87 rfl ?_
  refine GC.sub [(0, pv p_r), (1, pv p_v), (2, .int .i64 p_deep)] ⟨rfl, rfl, rfl, trivial⟩ ?_
  refine GC.seq ?_
  refine GC.region ?_
  refine GL.val trivial rfl (OV.move (v := pv p_r) rfl) ?_
  refine GL.call h trivial rfl ok_code_Reader_next (vs := [pv p_r]) rfl ?_
  rintro _ H2 ⟨r1, rfl, h⟩
  refine GL.val trivial rfl (OV.assign (v := .int .u8 r1) rfl) ?_
  refine GL.nil ?_
  refine GC.seq ?_
  refine GC.region ?_
  refine GL.val trivial rfl (OV.move (v := .int .u8 r1) rfl) ?_
  refine GL.val trivial rfl (OV.ibin (v := .bool ((r1 : Int) == 127)) rfl rfl rfl) ?_
  refine GL.val trivial rfl (OV.assign (v := .bool ((r1 : Int) == 127)) rfl) ?_
  refine GL.nil ?_
  refine GC.seq ?_
  refine GC.region ?_
  refine GL.val trivial rfl (OV.move (v := pv p_r) rfl) ?_
  refine GL.val trivial rfl (OV.move (v := .bool ((r1 : Int) == 127)) rfl) ?_
  refine GL.val trivial rfl (OV.move (v := .bool ((r1 : Int) == 127)) rfl) ?_
  refine GL.cut0 3 [(18, .bool (((r1 : Int) == 127) || ((r1 : Int) == 128))), (0, pv p_r), (1, pv p_v), (7, .bool ((r1 : Int) == 127)), (13, pv p_r)] ?_ ?_
  · rcases Bool.eq_false_or_eq_true ((r1 : Int) == 127) with hc3 | hc3
    · skip
      refine GL.skip ⟨_, rfl, .inl ⟨_, rfl, hc3⟩⟩ rfl ?_
      refine GL.skip ⟨_, rfl, .inl ⟨_, rfl, hc3⟩⟩ rfl ?_
      refine GL.val trivial rfl (OV.pickT (b := (r1 : Int) == 127) (v := .bool true) rfl hc3 rfl) ?_
      exact GL.jump0 (fun _ _ h => h) () rfl ⟨(by rw [hc3]; rfl), rfl, rfl, rfl, rfl, trivial⟩
    · skip
      refine GL.val ⟨_, _, rfl, rfl, hc3⟩ rfl (OV.move (v := .int .u8 r1) rfl) ?_
      refine GL.val ⟨_, _, rfl, rfl, hc3⟩ rfl (OV.ibin (v := .bool ((r1 : Int) == 128)) rfl rfl rfl) ?_
      refine GL.val trivial rfl (OV.pickF (b := (r1 : Int) == 127) (v := .bool ((r1 : Int) == 128)) rfl hc3 rfl) ?_
      exact GL.jump0 (fun _ _ h => h) () rfl ⟨(by rw [hc3]; rfl), rfl, rfl, rfl, rfl, trivial⟩
  refine GL.call h trivial rfl ok_code_Reader_ask (vs := [pv p_r, .bool (((r1 : Int) == 127) || ((r1 : Int) == 128))]) rfl ?_
  rintro _ H5 ⟨r4, rfl, h⟩
  refine GL.nil ?_
  obtain ⟨J6, h, hR9⟩ := h
  refine GC.join (α := Unit) J6 (fun _ => [(0, pv p_r), (1, pv p_v), (7, .bool ((r1 : Int) == 127))]) ?_ ?_
  · skip
    refine GC.seq ?_
    refine GC.region ?_
    refine GL.val trivial rfl (OV.move (v := .bool ((r1 : Int) == 127)) rfl) ?_
    refine GL.nil ?_
    refine GC.cond (b := (r1 : Int) == 127) rfl (fun hc10 => ?_) (fun hc10 => ?_)
    · replace h := And.left h hc10
      refine GC.region ?_
      refine GL.val trivial rfl (OV.move (v := pv p_v) rfl) ?_
      obtain ⟨p11, hp12, h⟩ := h
      refine GL.val trivial rfl (OV.nilCheck (q := p_v) rfl hp12) ?_
      refine GL.val trivial rfl (OV.fieldAddr (p := p11) rfl rfl) ?_
      refine GL.store (p := (p11.1, p11.2 + 2)) (v := sv [45]) h trivial rfl rfl rfl rfl ?_
      intro H13 h
      exact GL.jump (fun _ _ h => h) () h ⟨rfl, rfl, rfl, trivial⟩
    · replace h := And.right h hc10
      exact GC.jump (fun _ _ h => h) () h ⟨rfl, rfl, rfl, trivial⟩
  · intro x7 H8 h
    replace h := hR9 x7 H8 h
    refine GC.seq ?_
    refine GC.region ?_
    refine GL.val trivial rfl (OV.move (v := pv p_r) rfl) ?_
    refine GL.val trivial rfl (OV.move (v := .bool ((r1 : Int) == 127)) rfl) ?_
    refine GL.call h trivial rfl ok_code_Reader_flip (vs := [pv p_r, .bool ((r1 : Int) == 127)]) rfl ?_
    rintro _ H14 ⟨rfl, h⟩
    refine GL.nil ?_
    refine GC.seq ?_
    refine GC.region ?_
    refine GL.val trivial rfl (OV.assign (v := slv Sl.nil) rfl) ?_
    refine GL.nil ?_
    refine GC.seq ?_
    refine GC.seq ?_
    refine GC.region ?_
    refine GL.val trivial rfl (OV.move (v := pv p_r) rfl) ?_
    refine GL.call h trivial rfl ok_code_Reader_Count (vs := [pv p_r, .int .i64 200]) rfl ?_
    rintro _ H16 ⟨r15, rfl, h⟩
    refine GL.val trivial rfl (OV.move (v := .int .i64 0) rfl) ?_
    refine GL.nil ?_
    refine GC.block ?_
    refine GC.loop (α := Sl × Int) h (fun x17 => [(8, slv x17.1), (29, .int .i64 x17.2), (0, pv p_r), (1, pv p_v), (7, .bool ((r1 : Int) == 127)), (28, .int .i64 r15)]) ⟨rfl, rfl, rfl, rfl, rfl, rfl, trivial⟩ ?_
    intro x17 H19 J18 h
    refine GC.seq ?_
    refine GC.region ?_
    refine GL.val trivial rfl (OV.ibin (v := .bool (decide ((x17.2 : Int) < r15))) rfl rfl rfl) ?_
    refine GL.nil ?_
    refine GC.seq ?_
    refine GC.cond (b := decide ((x17.2 : Int) < r15)) rfl (fun hc20 => ?_) (fun hc20 => ?_)
    · replace h := And.left h hc20
      refine GC.skip ?_
      refine GC.seq ?_
      refine GC.block ?_
      refine GC.region ?_
      refine GL.val trivial rfl (OV.move (v := slv x17.1) rfl) ?_
      refine GL.val trivial rfl (OV.move (v := pv p_r) rfl) ?_
      refine GL.call h trivial rfl ok_code_Reader_next (vs := [pv p_r]) rfl ?_
      rintro _ H22 ⟨r21, rfl, h⟩
      refine GL.appendLit (s := x17.1) (ys := [.int .u8 r21]) (zc := [.int .u8 0]) (bytes := 1) h trivial rfl (fun _ => trivial) rfl (fun _ => rfl) (fun _ => rfl) (vs := [(0, .int .u8 r21)]) rfl ⟨5, fun _ => by kernel_rfl⟩ ⟨⟨_, _, _, rfl, rfl, rfl, rfl, rfl, rfl⟩⟩ rfl rfl ?_
      intro _ r23 H24 h
      refine GL.val trivial rfl (OV.assign (v := slv r23) rfl) ?_
      refine GL.nil_to (fun _ _ h => h) ?_
      refine GC.region ?_
      refine GL.val trivial rfl (OV.ibin (v := .int .i64 (w .i64 (x17.2 + 1))) rfl rfl rfl) ?_
      refine GL.val trivial rfl (OV.move (v := .int .i64 (w .i64 (x17.2 + 1))) rfl) ?_
      exact GL.jump (fun _ _ h => h) (r23, (w .i64 (x17.2 + 1))) h ⟨rfl, rfl, rfl, rfl, rfl, rfl, trivial⟩
    · replace h := And.right h hc20
      refine GC.exit_to (fun _ _ h => h) ?_
      refine GC.seq ?_
      refine GC.region ?_
      refine GL.val trivial rfl (OV.move (v := pv p_r) rfl) ?_
      refine GL.val trivial rfl (OV.move (v := .bool ((r1 : Int) == 127)) rfl) ?_
      refine GL.call h trivial rfl ok_code_Reader_flip (vs := [pv p_r, .bool ((r1 : Int) == 127)]) rfl ?_
      rintro _ H25 ⟨rfl, h⟩
      refine GL.nil ?_
      obtain ⟨Hs26, hle27, h⟩ := h
      refine GC.tail (Hs := Hs26) 9 (by kernel_rfl) hle27 (by kernel_rfl) ?_
      refine GT.take 0 rfl (by kernel_rfl) (by kernel_rfl) (by kernel_rfl) rfl (fun _ _ _ h => by obtain ⟨_, _, _, h, _⟩ := h; cases h) trivial rfl (OV.move (v := pv p_v) rfl) ?_
      obtain ⟨p28, hp29, h⟩ := h
      refine GT.take 1 rfl (by kernel_rfl) (by kernel_rfl) (by kernel_rfl) rfl (fun _ _ _ h => by obtain ⟨_, _, _, h, _⟩ := h; cases h) trivial rfl (OV.nilCheck (q := p_v) rfl hp29) ?_
      refine GT.take 2 rfl (by kernel_rfl) (by kernel_rfl) (by kernel_rfl) rfl (fun _ _ _ h => by obtain ⟨_, _, _, h, _⟩ := h; cases h) trivial rfl (OV.fieldAddr (p := p28) rfl rfl) ?_
      obtain ⟨x30, hr31, h⟩ := h
      refine GT.take 3 rfl (by kernel_rfl) (by kernel_rfl) (by kernel_rfl) rfl (fun _ _ _ h => by obtain ⟨_, _, _, h, _⟩ := h; cases h) trivial rfl (OV.load (p := (p28.1, p28.2 + 2)) rfl rfl hr31) ?_
      refine GT.take 4 rfl (by kernel_rfl) (by kernel_rfl) (by kernel_rfl) rfl (fun _ _ _ h => by obtain ⟨_, _, _, h, _⟩ := h; cases h) trivial rfl (OV.move (v := slv x17.1) rfl) ?_
      obtain ⟨t32, h33, h34, h⟩ := h
      refine GT.take 5 rfl (by kernel_rfl) (by kernel_rfl) (by kernel_rfl) rfl (fun _ _ _ h => by obtain ⟨_, _, _, h, _⟩ := h; cases h) trivial rfl (OV.b2s (b := x17.1) (s := t32) h33 h34 rfl rfl rfl rfl) ?_
      obtain ⟨hl35, h⟩ := h
      refine GT.take 6 rfl (by kernel_rfl) (by kernel_rfl) (by kernel_rfl) rfl (fun _ _ _ h => by obtain ⟨_, _, _, h, _⟩ := h; cases h) trivial rfl (OV.cat (a := x30) (b := t32) rfl rfl hl35) ?_
      obtain ⟨p36, hp37, h⟩ := h
      refine GT.take 7 rfl (by kernel_rfl) (by kernel_rfl) (by kernel_rfl) rfl (fun _ _ _ h => by obtain ⟨_, _, _, h, _⟩ := h; cases h) trivial rfl (OV.nilCheck (q := p_v) rfl hp37) ?_
      refine GT.take 8 rfl (by kernel_rfl) (by kernel_rfl) (by kernel_rfl) rfl (fun _ _ _ h => by obtain ⟨_, _, _, h, _⟩ := h; cases h) trivial rfl (OV.fieldAddr (p := p36) rfl rfl) ?_
      refine GT.done (by kernel_rfl) ?_
      show GL _ _ _ _ _ [_] _ _
      refine GL.store (p := (p36.1, p36.2 + 2)) (v := sv (x30 ++ t32)) h trivial rfl rfl rfl rfl ?_
      intro H38 h
      exact GL.ends (fun _ _ hf hs => post_tmp0 rfl hf hs ⟨rfl, h⟩)

def sh_code_Reader_words (C : Ctx) (p_r : Option (Nat × Nat)) (p_v : Option (Nat × Nat)) (p_deep : Int) (K : Heap → Prop) (H : Heap) : Prop :=
  c_code_Reader_Str C p_r 4096 (fun r1 H2 =>
 nck p_v fun p3 =>
 st (p3.1, p3.2 + 2) (sv r1) (fun H5 =>
 K H5) H2) H

theorem ad_code_Reader_words (C : Ctx) (p_r : Option (Nat × Nat)) (p_v : Option (Nat × Nat)) (p_deep : Int) (K : Heap → Prop) (H : Heap) (h : sh_code_Reader_words C p_r p_v p_deep K H) : c_code_Reader_words C p_r p_v p_deep K H := by
  refine Spec.enter Tryd.func88 rfl Tryd.ntmps88 rfl ?_
  refine GC.sub [(0, pv p_r), (1, pv p_v), (2, .int .i64 p_deep)] ⟨rfl, rfl, rfl, trivial⟩ ?_
  refine GC.region ?_
  refine GL.val trivial rfl (OV.move (v := pv p_v) rfl) ?_
  refine GL.val trivial rfl (OV.move (v := pv p_r) rfl) ?_
  refine GL.call h trivial rfl ok_code_Reader_Str (vs := [pv p_r, .int .i64 4096]) rfl ?_
  rintro _ H2 ⟨r1, rfl, h⟩
  obtain ⟨p3, hp4, h⟩ := h
  refine GL.val trivial rfl (OV.nilCheck (q := p_v) rfl hp4) ?_
  refine GL.val trivial rfl (OV.fieldAddr (p := p3) rfl rfl) ?_
  refine GL.store (p := (p3.1, p3.2 + 2)) (v := sv r1) h trivial rfl rfl rfl rfl ?_
  intro H5 h
  exact GL.ends (fun _ _ hf hs => post_tmp0 rfl hf hs ⟨rfl, h⟩)

def sh_code_Reader_list (C : Ctx) (p_r : Option (Nat × Nat)) (p_v : Option (Nat × Nat)) (p_deep : Int) (K : Heap → Prop) (H : Heap) : Prop :=
  c_code_Reader_next C p_r (fun r1 H2 =>
 lp (α := Sl × Int) (Sl.nil, r1) H2 (fun x3 J4 H5 =>
 ift ((x3.2 : Int) != 0)
 (jn (α := Sl) (fun x8 H9 =>
 c_code_Reader_next C p_r (fun r19 H20 =>
 J4 (x8, r19) H20) H9)
 (fun J7 => c_code_Reader_ask C p_r (((x3.2 : Int) == 1) && (decide (((Sl.len x3.1 : Int) : Int) < 16))) (fun r12 H13 =>
 ift r12
 (c_code_Reader_value C p_r (w .i64 (p_deep + 1)) (fun r15 H16 =>
 apd (T_api_Value.c T_api_Value.zero) 56 x3.1 ((T_api_Value.c r15) ++ []) 1 (fun r17 H18 =>
 J7 r17 H18) H16) H13)
 (J7 x3.1 H13)) H5))
 (nck p_v fun p21 =>
 st (p21.1, p21.2 + 3) (slv x3.1) (fun H23 =>
 K H23) H5))) H

theorem ad_code_Reader_list (C : Ctx) (p_r : Option (Nat × Nat)) (p_v : Option (Nat × Nat)) (p_deep : Int) (K : Heap → Prop) (H : Heap) (h : sh_code_Reader_list C p_r p_v p_deep K H) : c_code_Reader_list C p_r p_v p_deep K H := by
  refine Spec.enter Tryd.func89 rfl Tryd.ntmps89 rfl ?_
  refine GC.sub [(0, pv p_r), (1, pv p_v), (2, .int .i64 p_deep)] ⟨rfl, rfl, rfl, trivial⟩ ?_
  refine GC.seq ?_
  refine GC.region ?_
  refine GL.val trivial rfl (OV.assign (v := slv Sl.nil) rfl) ?_
  refine GL.nil ?_
  refine GC.seq ?_
  refine GC.seq ?_
  refine GC.region ?_
  refine GL.val trivial rfl (OV.move (v := pv p_r) rfl) ?_
  refine GL.call h trivial rfl ok_code_Reader_next (vs := [pv p_r]) rfl ?_
  rintro _ H2 ⟨r1, rfl, h⟩
  refine GL.val trivial rfl (OV.assign (v := .int .u8 r1) rfl) ?_
  refine GL.nil ?_
  refine GC.block ?_
  refine GC.loop (α := Sl × Int) h (fun x3 => [(6, slv x3.1), (7, .int .u8 x3.2), (0, pv p_r), (1, pv p_v), (2, .int .i64 p_deep)]) ⟨rfl, rfl, rfl, rfl, rfl, trivial⟩ ?_
  intro x3 H5 J4 h
  refine GC.seq ?_
  refine GC.seq ?_
  refine GC.region ?_
  refine GL.val trivial rfl (OV.move (v := .int .u8 x3.2) rfl) ?_
  refine GL.val trivial rfl (OV.ibin (v := .bool ((x3.2 : Int) != 0)) rfl rfl rfl) ?_
  refine GL.nil ?_
  refine GC.cond (b := (x3.2 : Int) != 0) rfl (fun hc6 => ?_) (fun hc6 => ?_)
  · replace h := And.left h hc6
    refine GC.skip ?_
    obtain ⟨J7, h, hR10⟩ := h
    refine GC.join (α := Sl) J7 (fun x8 => [(6, slv x8), (0, pv p_r), (1, pv p_v), (2, .int .i64 p_deep)]) ?_ ?_
    · skip
      refine GC.block ?_
      refine GC.seq ?_
      refine GC.region ?_
      refine GL.val trivial rfl (OV.move (v := pv p_r) rfl) ?_
      refine GL.val trivial rfl (OV.move (v := .int .u8 x3.2) rfl) ?_
      refine GL.val trivial rfl (OV.ibin (v := .bool ((x3.2 : Int) == 1)) rfl rfl rfl) ?_
      refine GL.val trivial rfl (OV.move (v := .bool ((x3.2 : Int) == 1)) rfl) ?_
      refine GL.cut0 4 [(21, .bool (((x3.2 : Int) == 1) && (decide (((Sl.len x3.1 : Int) : Int) < 16)))), (0, pv p_r), (1, pv p_v), (2, .int .i64 p_deep), (6, slv x3.1), (14, pv p_r)] ?_ ?_
      · rcases Bool.eq_false_or_eq_true ((x3.2 : Int) == 1) with hc11 | hc11
        · skip
          refine GL.val ⟨_, _, rfl, rfl, hc11⟩ rfl (OV.move (v := slv x3.1) rfl) ?_
          refine GL.val ⟨_, _, rfl, rfl, hc11⟩ rfl (OV.lenSl (s := x3.1) rfl rfl) ?_
          refine GL.val ⟨_, _, rfl, rfl, hc11⟩ rfl (OV.ibin (v := .bool (decide (((Sl.len x3.1 : Int) : Int) < 16))) rfl rfl rfl) ?_
          refine GL.val trivial rfl (OV.pickT (b := (x3.2 : Int) == 1) (v := .bool (decide (((Sl.len x3.1 : Int) : Int) < 16))) rfl hc11 rfl) ?_
          exact GL.jump0 (fun _ _ h => h) () rfl ⟨(by rw [hc11]; rfl), rfl, rfl, rfl, rfl, rfl, trivial⟩
        · skip
          refine GL.skip ⟨_, rfl, .inl ⟨_, rfl, hc11⟩⟩ rfl ?_
          refine GL.skip ⟨_, rfl, .inl ⟨_, rfl, hc11⟩⟩ rfl ?_
          refine GL.skip ⟨_, rfl, .inl ⟨_, rfl, hc11⟩⟩ rfl ?_
          refine GL.val trivial rfl (OV.pickF (b := (x3.2 : Int) == 1) (v := .bool false) rfl hc11 rfl) ?_
          exact GL.jump0 (fun _ _ h => h) () rfl ⟨(by rw [hc11]; rfl), rfl, rfl, rfl, rfl, rfl, trivial⟩
      refine GL.call h trivial rfl ok_code_Reader_ask (vs := [pv p_r, .bool (((x3.2 : Int) == 1) && (decide (((Sl.len x3.1 : Int) : Int) < 16)))]) rfl ?_
      rintro _ H13 ⟨r12, rfl, h⟩
      refine GL.nil ?_
      refine GC.cond (b := r12) rfl (fun hc14 => ?_) (fun hc14 => ?_)
      · replace h := And.left h hc14
        refine GC.region ?_
        refine GL.val trivial rfl (OV.move (v := slv x3.1) rfl) ?_
        refine GL.val trivial rfl (OV.move (v := pv p_r) rfl) ?_
        refine GL.val trivial rfl (OV.move (v := .int .i64 p_deep) rfl) ?_
        refine GL.val trivial rfl (OV.ibin (v := .int .i64 (w .i64 (p_deep + 1))) rfl rfl rfl) ?_
        refine GL.call h trivial rfl ok_code_Reader_value (vs := [pv p_r, .int .i64 (w .i64 (p_deep + 1))]) rfl ?_
        rintro _ H16 ⟨r15, rfl, h⟩
        refine GL.appendLit (s := x3.1) (ys := (T_api_Value.c r15) ++ []) (zc := T_api_Value.c T_api_Value.zero) (bytes := 56) h trivial rfl (fun _ => trivial) rfl (fun _ => rfl) (fun _ => rfl) (vs := [(0, .agg (T_api_Value.c r15).toArray)]) rfl ⟨25, fun _ => by kernel_rfl⟩ ⟨⟨_, _, _, rfl, rfl, rfl, rfl, rfl, rfl⟩⟩ rfl rfl ?_
        intro _ r17 H18 h
        refine GL.val trivial rfl (OV.assign (v := slv r17) rfl) ?_
        exact GL.jump (fun _ _ h => h) r17 h ⟨rfl, rfl, rfl, rfl, trivial⟩
      · replace h := And.right h hc14
        exact GC.jump (fun _ _ h => h) x3.1 h ⟨rfl, rfl, rfl, rfl, trivial⟩
    · intro x8 H9 h
      replace h := hR10 x8 H9 h
      refine GC.region ?_
      refine GL.val trivial rfl (OV.move (v := pv p_r) rfl) ?_
      refine GL.call h trivial rfl ok_code_Reader_next (vs := [pv p_r]) rfl ?_
      rintro _ H20 ⟨r19, rfl, h⟩
      refine GL.val trivial rfl (OV.assign (v := .int .u8 r19) rfl) ?_
      exact GL.jump (fun _ _ h => h) (x8, r19) h ⟨rfl, rfl, rfl, rfl, rfl, trivial⟩
  · replace h := And.right h hc6
    refine GC.exit_to (fun _ _ h => h) ?_
    refine GC.region ?_
    refine GL.val trivial rfl (OV.move (v := pv p_v) rfl) ?_
    refine GL.val trivial rfl (OV.move (v := slv x3.1) rfl) ?_
    obtain ⟨p21, hp22, h⟩ := h
    refine GL.val trivial rfl (OV.nilCheck (q := p_v) rfl hp22) ?_
    refine GL.val trivial rfl (OV.fieldAddr (p := p21) rfl rfl) ?_
    refine GL.store (p := (p21.1, p21.2 + 3)) (v := slv x3.1) h trivial rfl rfl rfl rfl ?_
    intro H23 h
    exact GL.ends (fun _ _ hf hs => post_tmp0 rfl hf hs ⟨rfl, h⟩)

def sh_code_Reader_cons (C : Ctx) (p_r : Option (Nat × Nat)) (p_v : Option (Nat × Nat)) (p_deep : Int) (K : Heap → Prop) (H : Heap) : Prop :=
  c_code_Reader_words C p_r p_v p_deep (fun H1 =>
 c_code_Reader_list C p_r p_v p_deep (fun H2 =>
 K H2) H1) H

theorem ad_code_Reader_cons (C : Ctx) (p_r : Option (Nat × Nat)) (p_v : Option (Nat × Nat)) (p_deep : Int) (K : Heap → Prop) (H : Heap) (h : sh_code_Reader_cons C p_r p_v p_deep K H) : c_code_Reader_cons C p_r p_v p_deep K H := by
  refine Spec.enter Tryd.func90 rfl Tryd.ntmps90 rfl ?_
  refine GC.sub [(0, pv p_r), (1, pv p_v), (2, .int .i64 p_deep)] ⟨rfl, rfl, rfl, trivial⟩ ?_
  refine GC.seq ?_
  refine GC.region ?_
  refine GL.val trivial rfl (OV.move (v := pv p_r) rfl) ?_
  refine GL.val trivial rfl (OV.move (v := pv p_v) rfl) ?_
  refine GL.val trivial rfl (OV.move (v := .int .i64 p_deep) rfl) ?_
  refine GL.call h trivial rfl ok_code_Reader_words (vs := [pv p_r, pv p_v, .int .i64 p_deep]) rfl ?_
  rintro _ H1 ⟨rfl, h⟩
  refine GL.nil ?_
  refine GC.region ?_
  refine GL.val trivial rfl (OV.move (v := pv p_r) rfl) ?_
  refine GL.val trivial rfl (OV.move (v := pv p_v) rfl) ?_
  refine GL.val trivial rfl (OV.move (v := .int .i64 p_deep) rfl) ?_
  refine GL.call h trivial rfl ok_code_Reader_list (vs := [pv p_r, pv p_v, .int .i64 p_deep]) rfl ?_
  rintro _ H2 ⟨rfl, h⟩
  exact GL.ends (fun _ _ hf hs => post_tmp0 rfl hf hs ⟨rfl, h⟩)

def sh_value_number (C : Ctx) (p_s : Str) (K : Int → Bool → Heap → Prop) (H : Heap) : Prop :=
  c_strings_TrimPrefix C p_s [45] (fun r1 H2 =>
 jn (α := Bool) (fun b3 H9 =>
 jn (α := Bool) (fun b10 H18 =>
 ift b10
 (K 0 false H18)
 (K (List.length r1 : Int) true H18))
 (fun J11 => ift b3
 (J11 true H9)
 (ixs r1 0 fun c14 =>
 J11 ((((c14.toNat : Int) : Int) == 48) && (!(p_s == ([48] : Str)))) H9)))
 (fun J4 => ift (r1 == ([] : Str))
 (J4 true H2)
 (c_strings_Trim C r1 [48, 49, 50, 51, 52, 53, 54, 55, 56, 57] (fun r7 H8 =>
 J4 (!(r7 == ([] : Str))) H8) H2))) H

theorem ad_value_number (C : Ctx) (p_s : Str) (K : Int → Bool → Heap → Prop) (H : Heap) (h : sh_value_number C p_s K H) : c_value_number C p_s K H := by
  refine Spec.enter Tryd.func91 rfl Tryd.ntmps91 rfl ?_
  refine GC.sub [(0, sv p_s)] ⟨rfl, trivial⟩ ?_
  refine GC.seq ?_
  refine GC.region ?_
  refine GL.val trivial rfl (OV.assign (v := .int .i64 0) rfl) ?_
  refine GL.val trivial rfl (OV.assign (v := .bool false) rfl) ?_
  refine GL.nil ?_
  refine GC.seq ?_
  refine GC.region ?_
  refine GL.val trivial rfl (OV.move (v := sv p_s) rfl) ?_
  refine GL.call h trivial rfl ok_strings_TrimPrefix (vs := [sv p_s, sv [45]]) rfl ?_
  rintro _ H2 ⟨r1, rfl, h⟩
  refine GL.val trivial rfl (OV.assign (v := sv r1) rfl) ?_
  refine GL.nil ?_
  refine GC.seq ?_
  refine GC.seq ?_
  refine GC.region ?_
  refine GL.val trivial rfl (OV.move (v := sv r1) rfl) ?_
  refine GL.val trivial rfl (OV.sbin (a := r1) (b := ([] : Str)) (v := .bool (r1 == ([] : Str))) rfl rfl rfl) ?_
  refine GL.val trivial rfl (OV.move (v := .bool (r1 == ([] : Str))) rfl) ?_
  obtain ⟨J4, h, hR5⟩ := h
  refine GL.cut (α := Bool) 4 J4 (fun b3 => [(13, .bool b3), (0, sv p_s), (4, sv r1)]) ?_ ?_
  · rcases Bool.eq_false_or_eq_true (r1 == ([] : Str)) with hc6 | hc6
    · skip
      replace h := And.left h hc6
      refine GL.skip ⟨_, rfl, .inl ⟨_, rfl, hc6⟩⟩ rfl ?_
      refine GL.skip ⟨_, rfl, .inl ⟨_, rfl, hc6⟩⟩ rfl ?_
      refine GL.skip ⟨_, rfl, .inl ⟨_, rfl, hc6⟩⟩ rfl ?_
      refine GL.val trivial rfl (OV.pickT (b := r1 == ([] : Str)) (v := .bool true) rfl hc6 rfl) ?_
      exact GL.jump (fun _ _ h => h) true h ⟨rfl, rfl, rfl, trivial⟩
    · skip
      replace h := And.right h hc6
      refine GL.val ⟨_, _, rfl, rfl, hc6⟩ rfl (OV.move (v := sv r1) rfl) ?_
      refine GL.call h ⟨_, _, rfl, rfl, hc6⟩ rfl ok_strings_Trim (vs := [sv r1, sv [48, 49, 50, 51, 52, 53, 54, 55, 56, 57]]) rfl ?_
      rintro _ H8 ⟨r7, rfl, h⟩
      refine GL.val ⟨_, _, rfl, rfl, hc6⟩ rfl (OV.sbin (a := r7) (b := ([] : Str)) (v := .bool (!(r7 == ([] : Str)))) rfl rfl rfl) ?_
      refine GL.val trivial rfl (OV.pickF (b := r1 == ([] : Str)) (v := .bool (!(r7 == ([] : Str)))) rfl hc6 rfl) ?_
      exact GL.jump (fun _ _ h => h) (!(r7 == ([] : Str))) h ⟨rfl, rfl, rfl, trivial⟩
  intro b3 H9 h
  replace h := hR5 b3 H9 h
  refine GL.val trivial rfl (OV.move (v := .bool b3) rfl) ?_
  obtain ⟨J11, h, hR12⟩ := h
  refine GL.cut (α := Bool) 8 J11 (fun b10 => [(22, .bool b10), (4, sv r1)]) ?_ ?_
  · rcases Bool.eq_false_or_eq_true b3 with hc13 | hc13
    · skip
      replace h := And.left h hc13
      refine GL.skip ⟨_, rfl, .inl ⟨_, rfl, hc13⟩⟩ rfl ?_
      refine GL.skip ⟨_, rfl, .inl ⟨_, rfl, hc13⟩⟩ rfl ?_
      refine GL.skip ⟨_, rfl, .inl ⟨_, rfl, hc13⟩⟩ rfl ?_
      refine GL.skip ⟨_, rfl, .inl ⟨_, rfl, hc13⟩⟩ rfl ?_
      refine GL.skip ⟨_, rfl, .inr rfl⟩ rfl ?_
      refine GL.skip ⟨_, rfl, .inr rfl⟩ rfl ?_
      refine GL.skip ⟨_, rfl, .inl ⟨_, rfl, hc13⟩⟩ rfl ?_
      refine GL.val trivial rfl (OV.pickT (b := b3) (v := .bool true) rfl hc13 rfl) ?_
      exact GL.jump (fun _ _ h => h) true h ⟨rfl, rfl, trivial⟩
    · skip
      replace h := And.right h hc13
      refine GL.val ⟨_, _, rfl, rfl, hc13⟩ rfl (OV.move (v := sv r1) rfl) ?_
      obtain ⟨c14, ha15, hb16, h⟩ := h
      refine GL.val ⟨_, _, rfl, rfl, hc13⟩ rfl (OV.indexStr (s := r1) rfl rfl rfl ha15 hb16) ?_
      refine GL.val ⟨_, _, rfl, rfl, hc13⟩ rfl (OV.ibin (v := .bool (((c14.toNat : Int) : Int) == 48)) rfl rfl rfl) ?_
      refine GL.val ⟨_, _, rfl, rfl, hc13⟩ rfl (OV.move (v := .bool (((c14.toNat : Int) : Int) == 48)) rfl) ?_
      refine GL.cut0 3 [(21, .bool ((((c14.toNat : Int) : Int) == 48) && (!(p_s == ([48] : Str))))), (4, sv r1), (14, .bool b3)] ?_ ?_
      · rcases Bool.eq_false_or_eq_true (((c14.toNat : Int) : Int) == 48) with hc17 | hc17
        · skip
          refine GL.val ⟨_, _, rfl, rfl, hc17⟩ rfl (OV.move (v := sv p_s) rfl) ?_
          refine GL.val ⟨_, _, rfl, rfl, hc17⟩ rfl (OV.sbin (a := p_s) (b := ([48] : Str)) (v := .bool (!(p_s == ([48] : Str)))) rfl rfl rfl) ?_
          refine GL.val ⟨_, _, rfl, rfl, hc13⟩ rfl (OV.pickT (b := ((c14.toNat : Int) : Int) == 48) (v := .bool (!(p_s == ([48] : Str)))) rfl hc17 rfl) ?_
          exact GL.jump0 (fun _ _ h => h) () rfl ⟨(by rw [hc17]; rfl), rfl, rfl, trivial⟩
        · skip
          refine GL.skip ⟨_, rfl, .inl ⟨_, rfl, hc17⟩⟩ rfl ?_
          refine GL.skip ⟨_, rfl, .inl ⟨_, rfl, hc17⟩⟩ rfl ?_
          refine GL.val ⟨_, _, rfl, rfl, hc13⟩ rfl (OV.pickF (b := ((c14.toNat : Int) : Int) == 48) (v := .bool false) rfl hc17 rfl) ?_
          exact GL.jump0 (fun _ _ h => h) () rfl ⟨(by rw [hc17]; rfl), rfl, rfl, trivial⟩
      refine GL.val trivial rfl (OV.pickF (b := b3) (v := .bool ((((c14.toNat : Int) : Int) == 48) && (!(p_s == ([48] : Str))))) rfl hc13 rfl) ?_
      exact GL.jump (fun _ _ h => h) ((((c14.toNat : Int) : Int) == 48) && (!(p_s == ([48] : Str)))) h ⟨rfl, rfl, trivial⟩
  intro b10 H18 h
  replace h := hR12 b10 H18 h
  refine GL.nil ?_
  refine GC.cond (b := b10) rfl (fun hc19 => ?_) (fun hc19 => ?_)
  · replace h := And.left h hc19
    refine GC.seq ?_
    refine GC.region ?_
    refine GL.val trivial rfl (OV.assign (v := .int .i64 0) rfl) ?_
    refine GL.val trivial rfl (OV.assign (v := .bool false) rfl) ?_
    refine GL.nil ?_
    exact GC.ret (fun _ _ hf hs => post_tmp2 rfl rfl rfl hf hs ⟨0, false, rfl, h⟩)
  · replace h := And.right h hc19
    refine GC.skip ?_
    refine GC.seq ?_
    refine GC.region ?_
    refine GL.val trivial rfl (OV.move (v := sv r1) rfl) ?_
    refine GL.val trivial rfl (OV.lenStr (s := r1) rfl rfl) ?_
    refine GL.val trivial rfl (OV.assign (v := .int .i64 (List.length r1 : Int)) rfl) ?_
    refine GL.val trivial rfl (OV.assign (v := .bool true) rfl) ?_
    refine GL.nil ?_
    exact GC.ret (fun _ _ hf hs => post_tmp2 rfl rfl rfl hf hs ⟨(List.length r1 : Int), true, rfl, h⟩)

def sh_strings_Cut (C : Ctx) (p_s : Str) (p_sep : Str) (K : Str → Str → Bool → Heap → Prop) (H : Heap) : Prop :=
  c_internal_stringslite_Cut C p_s p_sep (fun r1 r2 r3 H4 =>
 K r1 r2 r3 H4) H

theorem ad_strings_Cut (C : Ctx) (p_s : Str) (p_sep : Str) (K : Str → Str → Bool → Heap → Prop) (H : Heap) (h : sh_strings_Cut C p_s p_sep K H) : c_strings_Cut C p_s p_sep K H := by
  refine Spec.enter Tryd.func92 rfl Tryd.ntmps92 rfl ?_
  refine GC.sub [(0, sv p_s), (1, sv p_sep)] ⟨rfl, rfl, trivial⟩ ?_
  refine GC.seq ?_
  refine GC.region ?_
  refine GL.val trivial rfl (OV.assign (v := sv []) rfl) ?_
  refine GL.val trivial rfl (OV.assign (v := sv []) rfl) ?_
  refine GL.val trivial rfl (OV.assign (v := .bool false) rfl) ?_
  refine GL.nil ?_
  refine GC.seq ?_
  refine GC.region ?_
  refine GL.val trivial rfl (OV.move (v := sv p_s) rfl) ?_
  refine GL.val trivial rfl (OV.move (v := sv p_sep) rfl) ?_
  refine GL.call h trivial rfl ok_internal_stringslite_Cut (vs := [sv p_s, sv p_sep]) rfl ?_
  rintro _ H4 ⟨r1, r2, r3, rfl, h⟩
  refine GL.val trivial rfl (OV.extract (v := sv r1) rfl rfl) ?_
  refine GL.val trivial rfl (OV.extract (v := sv r2) rfl rfl) ?_
  refine GL.val trivial rfl (OV.extract (v := .bool r3) rfl rfl) ?_
  refine GL.val trivial rfl (OV.assign (v := sv r1) rfl) ?_
  refine GL.val trivial rfl (OV.assign (v := sv r2) rfl) ?_
  refine GL.val trivial rfl (OV.assign (v := .bool r3) rfl) ?_
  refine GL.nil ?_
  exact GC.ret (fun _ _ hf hs => post_tmp3 rfl rfl rfl rfl hf hs ⟨r1, r2, r3, rfl, h⟩)

def sh_value_name (C : Ctx) (p_s : Str) (K : Bool → Heap → Prop) (H : Heap) : Prop :=
  jn (α := Bool) (fun b2 H9 =>
 jn (α := Bool) (fun b10 H17 =>
 ift b10
 (K false H17)
 (lp (α := Int) 0 H17 (fun x19 J20 H21 =>
 ift (decide ((x19 : Int) < (List.length p_s : Int)))
 (ixs p_s x19 fun c23 =>
 ift (!(((((decide (((c23.toNat : Int) : Int) ≥ 97)) && (decide (((c23.toNat : Int) : Int) ≤ 122))) || ((decide (((c23.toNat : Int) : Int) ≥ 65)) && (decide (((c23.toNat : Int) : Int) ≤ 90)))) || ((decide (((c23.toNat : Int) : Int) ≥ 48)) && (decide (((c23.toNat : Int) : Int) ≤ 57)))) || (((c23.toNat : Int) : Int) == 95)))
 (K false H21)
 (J20 (w .i64 (x19 + 1)) H21))
 (K true H21))))
 (fun J11 => ift b2
 (J11 true H9)
 (ixs p_s 0 fun c14 =>
 J11 (decide (((c14.toNat : Int) : Int) > 122)) H9)))
 (fun J3 => ift ((p_s == ([] : Str)) || (decide (((List.length p_s : Int) : Int) > 32)))
 (J3 true H)
 (ixs p_s 0 fun c6 =>
 J3 (decide (((c6.toNat : Int) : Int) < 97)) H))

theorem ad_value_name (C : Ctx) (p_s : Str) (K : Bool → Heap → Prop) (H : Heap) (h : sh_value_name C p_s K H) : c_value_name C p_s K H := by
  refine Spec.enter Tryd.func93 rfl Tryd.ntmps93 rfl ?_
  refine GC.sub [(0, sv p_s)] ⟨rfl, trivial⟩ ?_
  refine GC.seq ?_
  refine GC.region ?_
  refine GL.val trivial rfl (OV.assign (v := .bool false) rfl) ?_
  refine GL.nil ?_
  refine GC.seq ?_
  refine GC.seq ?_
  refine GC.region ?_
  refine GL.val trivial rfl (OV.move (v := sv p_s) rfl) ?_
  refine GL.val trivial rfl (OV.sbin (a := p_s) (b := ([] : Str)) (v := .bool (p_s == ([] : Str))) rfl rfl rfl) ?_
  refine GL.val trivial rfl (OV.move (v := .bool (p_s == ([] : Str))) rfl) ?_
  refine GL.cut0 4 [(11, .bool ((p_s == ([] : Str)) || (decide (((List.length p_s : Int) : Int) > 32)))), (0, sv p_s)] ?_ ?_
  · rcases Bool.eq_false_or_eq_true (p_s == ([] : Str)) with hc1 | hc1
    · skip
      refine GL.skip ⟨_, rfl, .inl ⟨_, rfl, hc1⟩⟩ rfl ?_
      refine GL.skip ⟨_, rfl, .inl ⟨_, rfl, hc1⟩⟩ rfl ?_
      refine GL.skip ⟨_, rfl, .inl ⟨_, rfl, hc1⟩⟩ rfl ?_
      refine GL.val trivial rfl (OV.pickT (b := p_s == ([] : Str)) (v := .bool true) rfl hc1 rfl) ?_
      exact GL.jump0 (fun _ _ h => h) () rfl ⟨(by rw [hc1]; rfl), rfl, trivial⟩
    · skip
      refine GL.val ⟨_, _, rfl, rfl, hc1⟩ rfl (OV.move (v := sv p_s) rfl) ?_
      refine GL.val ⟨_, _, rfl, rfl, hc1⟩ rfl (OV.lenStr (s := p_s) rfl rfl) ?_
      refine GL.val ⟨_, _, rfl, rfl, hc1⟩ rfl (OV.ibin (v := .bool (decide (((List.length p_s : Int) : Int) > 32))) rfl rfl rfl) ?_
      refine GL.val trivial rfl (OV.pickF (b := p_s == ([] : Str)) (v := .bool (decide (((List.length p_s : Int) : Int) > 32))) rfl hc1 rfl) ?_
      exact GL.jump0 (fun _ _ h => h) () rfl ⟨(by rw [hc1]; rfl), rfl, trivial⟩
  refine GL.val trivial rfl (OV.move (v := .bool ((p_s == ([] : Str)) || (decide (((List.length p_s : Int) : Int) > 32)))) rfl) ?_
  obtain ⟨J3, h, hR4⟩ := h
  refine GL.cut (α := Bool) 4 J3 (fun b2 => [(16, .bool b2), (0, sv p_s)]) ?_ ?_
  · rcases Bool.eq_false_or_eq_true ((p_s == ([] : Str)) || (decide (((List.length p_s : Int) : Int) > 32))) with hc5 | hc5
    · skip
      replace h := And.left h hc5
      refine GL.skip ⟨_, rfl, .inl ⟨_, rfl, hc5⟩⟩ rfl ?_
      refine GL.skip ⟨_, rfl, .inl ⟨_, rfl, hc5⟩⟩ rfl ?_
      refine GL.skip ⟨_, rfl, .inl ⟨_, rfl, hc5⟩⟩ rfl ?_
      refine GL.val trivial rfl (OV.pickT (b := (p_s == ([] : Str)) || (decide (((List.length p_s : Int) : Int) > 32))) (v := .bool true) rfl hc5 rfl) ?_
      exact GL.jump (fun _ _ h => h) true h ⟨rfl, rfl, trivial⟩
    · skip
      replace h := And.right h hc5
      refine GL.val ⟨_, _, rfl, rfl, hc5⟩ rfl (OV.move (v := sv p_s) rfl) ?_
      obtain ⟨c6, ha7, hb8, h⟩ := h
      refine GL.val ⟨_, _, rfl, rfl, hc5⟩ rfl (OV.indexStr (s := p_s) rfl rfl rfl ha7 hb8) ?_
      refine GL.val ⟨_, _, rfl, rfl, hc5⟩ rfl (OV.ibin (v := .bool (decide (((c6.toNat : Int) : Int) < 97))) rfl rfl rfl) ?_
      refine GL.val trivial rfl (OV.pickF (b := (p_s == ([] : Str)) || (decide (((List.length p_s : Int) : Int) > 32))) (v := .bool (decide (((c6.toNat : Int) : Int) < 97))) rfl hc5 rfl) ?_
      exact GL.jump (fun _ _ h => h) (decide (((c6.toNat : Int) : Int) < 97)) h ⟨rfl, rfl, trivial⟩
  intro b2 H9 h
  replace h := hR4 b2 H9 h
  refine GL.val trivial rfl (OV.move (v := .bool b2) rfl) ?_
  obtain ⟨J11, h, hR12⟩ := h
  refine GL.cut (α := Bool) 4 J11 (fun b10 => [(21, .bool b10), (0, sv p_s)]) ?_ ?_
  · rcases Bool.eq_false_or_eq_true b2 with hc13 | hc13
    · skip
      replace h := And.left h hc13
      refine GL.skip ⟨_, rfl, .inl ⟨_, rfl, hc13⟩⟩ rfl ?_
      refine GL.skip ⟨_, rfl, .inl ⟨_, rfl, hc13⟩⟩ rfl ?_
      refine GL.skip ⟨_, rfl, .inl ⟨_, rfl, hc13⟩⟩ rfl ?_
      refine GL.val trivial rfl (OV.pickT (b := b2) (v := .bool true) rfl hc13 rfl) ?_
      exact GL.jump (fun _ _ h => h) true h ⟨rfl, rfl, trivial⟩
    · skip
      replace h := And.right h hc13
      refine GL.val ⟨_, _, rfl, rfl, hc13⟩ rfl (OV.move (v := sv p_s) rfl) ?_
      obtain ⟨c14, ha15, hb16, h⟩ := h
      refine GL.val ⟨_, _, rfl, rfl, hc13⟩ rfl (OV.indexStr (s := p_s) rfl rfl rfl ha15 hb16) ?_
      refine GL.val ⟨_, _, rfl, rfl, hc13⟩ rfl (OV.ibin (v := .bool (decide (((c14.toNat : Int) : Int) > 122))) rfl rfl rfl) ?_
      refine GL.val trivial rfl (OV.pickF (b := b2) (v := .bool (decide (((c14.toNat : Int) : Int) > 122))) rfl hc13 rfl) ?_
      exact GL.jump (fun _ _ h => h) (decide (((c14.toNat : Int) : Int) > 122)) h ⟨rfl, rfl, trivial⟩
  intro b10 H17 h
  replace h := hR12 b10 H17 h
  refine GL.nil ?_
  refine GC.cond (b := b10) rfl (fun hc18 => ?_) (fun hc18 => ?_)
  · replace h := And.left h hc18
    refine GC.seq ?_
    refine GC.region ?_
    refine GL.val trivial rfl (OV.assign (v := .bool false) rfl) ?_
    refine GL.nil ?_
    exact GC.ret (fun _ _ hf hs => post_tmp1 rfl rfl hf hs ⟨false, rfl, h⟩)
  · replace h := And.right h hc18
    refine GC.skip ?_
    refine GC.seq ?_
    refine GC.seq ?_
    refine GC.region ?_
    refine GL.val trivial rfl (OV.move (v := sv p_s) rfl) ?_
    refine GL.val trivial rfl (OV.lenStr (s := p_s) rfl rfl) ?_
    refine GL.val trivial rfl (OV.move (v := .int .i64 0) rfl) ?_
    refine GL.nil ?_
    refine GC.block ?_
    refine GC.loop (α := Int) h (fun x19 => [(24, .int .i64 x19), (0, sv p_s), (23, .int .i64 (List.length p_s : Int))]) ⟨rfl, rfl, rfl, trivial⟩ ?_
    intro x19 H21 J20 h
    refine GC.seq ?_
    refine GC.region ?_
    refine GL.val trivial rfl (OV.ibin (v := .bool (decide ((x19 : Int) < (List.length p_s : Int)))) rfl rfl rfl) ?_
    refine GL.nil ?_
    refine GC.seq ?_
    refine GC.cond (b := decide ((x19 : Int) < (List.length p_s : Int))) rfl (fun hc22 => ?_) (fun hc22 => ?_)
    · replace h := And.left h hc22
      refine GC.skip ?_
      refine GC.seq ?_
      refine GC.block ?_
      refine GC.seq ?_
      refine GC.region ?_
      refine GL.val trivial rfl (OV.move (v := .int .i64 x19) rfl) ?_
      refine GL.val trivial rfl (OV.assign (v := .int .i64 x19) rfl) ?_
      refine GL.nil ?_
      refine GC.seq ?_
      refine GC.region ?_
      refine GL.val trivial rfl (OV.move (v := sv p_s) rfl) ?_
      refine GL.val trivial rfl (OV.move (v := .int .i64 x19) rfl) ?_
      obtain ⟨c23, ha24, hb25, h⟩ := h
      refine GL.val trivial rfl (OV.indexStr (s := p_s) rfl rfl rfl ha24 hb25) ?_
      refine GL.val trivial rfl (OV.assign (v := .int .u8 (c23.toNat : Int)) rfl) ?_
      refine GL.nil ?_
      refine GC.seq ?_
      refine GC.region ?_
      refine GL.val trivial rfl (OV.move (v := .int .u8 (c23.toNat : Int)) rfl) ?_
      refine GL.val trivial rfl (OV.ibin (v := .bool (decide (((c23.toNat : Int) : Int) ≥ 97))) rfl rfl rfl) ?_
      refine GL.val trivial rfl (OV.move (v := .bool (decide (((c23.toNat : Int) : Int) ≥ 97))) rfl) ?_
      refine GL.cut0 3 [(35, .bool ((decide (((c23.toNat : Int) : Int) ≥ 97)) && (decide (((c23.toNat : Int) : Int) ≤ 122)))), (0, sv p_s), (4, .int .u8 (c23.toNat : Int)), (23, .int .i64 (List.length p_s : Int)), (24, .int .i64 x19)] ?_ ?_
      · rcases Bool.eq_false_or_eq_true (decide (((c23.toNat : Int) : Int) ≥ 97)) with hc26 | hc26
        · skip
          refine GL.val ⟨_, _, rfl, rfl, hc26⟩ rfl (OV.move (v := .int .u8 (c23.toNat : Int)) rfl) ?_
          refine GL.val ⟨_, _, rfl, rfl, hc26⟩ rfl (OV.ibin (v := .bool (decide (((c23.toNat : Int) : Int) ≤ 122))) rfl rfl rfl) ?_
          refine GL.val trivial rfl (OV.pickT (b := decide (((c23.toNat : Int) : Int) ≥ 97)) (v := .bool (decide (((c23.toNat : Int) : Int) ≤ 122))) rfl hc26 rfl) ?_
          exact GL.jump0 (fun _ _ h => h) () rfl ⟨(by rw [hc26]; rfl), rfl, rfl, rfl, rfl, trivial⟩
        · skip
          refine GL.skip ⟨_, rfl, .inl ⟨_, rfl, hc26⟩⟩ rfl ?_
          refine GL.skip ⟨_, rfl, .inl ⟨_, rfl, hc26⟩⟩ rfl ?_
          refine GL.val trivial rfl (OV.pickF (b := decide (((c23.toNat : Int) : Int) ≥ 97)) (v := .bool false) rfl hc26 rfl) ?_
          exact GL.jump0 (fun _ _ h => h) () rfl ⟨(by rw [hc26]; rfl), rfl, rfl, rfl, rfl, trivial⟩
      refine GL.val trivial rfl (OV.move (v := .bool ((decide (((c23.toNat : Int) : Int) ≥ 97)) && (decide (((c23.toNat : Int) : Int) ≤ 122)))) rfl) ?_
      refine GL.cut0 7 [(43, .bool (((decide (((c23.toNat : Int) : Int) ≥ 97)) && (decide (((c23.toNat : Int) : Int) ≤ 122))) || ((decide (((c23.toNat : Int) : Int) ≥ 65)) && (decide (((c23.toNat : Int) : Int) ≤ 90))))), (0, sv p_s), (4, .int .u8 (c23.toNat : Int)), (23, .int .i64 (List.length p_s : Int)), (24, .int .i64 x19)] ?_ ?_
      · rcases Bool.eq_false_or_eq_true ((decide (((c23.toNat : Int) : Int) ≥ 97)) && (decide (((c23.toNat : Int) : Int) ≤ 122))) with hc27 | hc27
        · skip
          refine GL.skip ⟨_, rfl, .inl ⟨_, rfl, hc27⟩⟩ rfl ?_
          refine GL.skip ⟨_, rfl, .inl ⟨_, rfl, hc27⟩⟩ rfl ?_
          refine GL.skip ⟨_, rfl, .inl ⟨_, rfl, hc27⟩⟩ rfl ?_
          refine GL.skip ⟨_, rfl, .inr rfl⟩ rfl ?_
          refine GL.skip ⟨_, rfl, .inr rfl⟩ rfl ?_
          refine GL.skip ⟨_, rfl, .inl ⟨_, rfl, hc27⟩⟩ rfl ?_
          refine GL.val trivial rfl (OV.pickT (b := (decide (((c23.toNat : Int) : Int) ≥ 97)) && (decide (((c23.toNat : Int) : Int) ≤ 122))) (v := .bool true) rfl hc27 rfl) ?_
          exact GL.jump0 (fun _ _ h => h) () rfl ⟨(by rw [hc27]; rfl), rfl, rfl, rfl, rfl, trivial⟩
        · skip
          refine GL.val ⟨_, _, rfl, rfl, hc27⟩ rfl (OV.move (v := .int .u8 (c23.toNat : Int)) rfl) ?_
          refine GL.val ⟨_, _, rfl, rfl, hc27⟩ rfl (OV.ibin (v := .bool (decide (((c23.toNat : Int) : Int) ≥ 65))) rfl rfl rfl) ?_
          refine GL.val ⟨_, _, rfl, rfl, hc27⟩ rfl (OV.move (v := .bool (decide (((c23.toNat : Int) : Int) ≥ 65))) rfl) ?_
          refine GL.cut0 3 [(42, .bool ((decide (((c23.toNat : Int) : Int) ≥ 65)) && (decide (((c23.toNat : Int) : Int) ≤ 90)))), (0, sv p_s), (4, .int .u8 (c23.toNat : Int)), (23, .int .i64 (List.length p_s : Int)), (24, .int .i64 x19), (36, .bool ((decide (((c23.toNat : Int) : Int) ≥ 97)) && (decide (((c23.toNat : Int) : Int) ≤ 122))))] ?_ ?_
          · rcases Bool.eq_false_or_eq_true (decide (((c23.toNat : Int) : Int) ≥ 65)) with hc28 | hc28
            · skip
              refine GL.val ⟨_, _, rfl, rfl, hc28⟩ rfl (OV.move (v := .int .u8 (c23.toNat : Int)) rfl) ?_
              refine GL.val ⟨_, _, rfl, rfl, hc28⟩ rfl (OV.ibin (v := .bool (decide (((c23.toNat : Int) : Int) ≤ 90))) rfl rfl rfl) ?_
              refine GL.val ⟨_, _, rfl, rfl, hc27⟩ rfl (OV.pickT (b := decide (((c23.toNat : Int) : Int) ≥ 65)) (v := .bool (decide (((c23.toNat : Int) : Int) ≤ 90))) rfl hc28 rfl) ?_
              exact GL.jump0 (fun _ _ h => h) () rfl ⟨(by rw [hc28]; rfl), rfl, rfl, rfl, rfl, rfl, trivial⟩
            · skip
              refine GL.skip ⟨_, rfl, .inl ⟨_, rfl, hc28⟩⟩ rfl ?_
              refine GL.skip ⟨_, rfl, .inl ⟨_, rfl, hc28⟩⟩ rfl ?_
              refine GL.val ⟨_, _, rfl, rfl, hc27⟩ rfl (OV.pickF (b := decide (((c23.toNat : Int) : Int) ≥ 65)) (v := .bool false) rfl hc28 rfl) ?_
              exact GL.jump0 (fun _ _ h => h) () rfl ⟨(by rw [hc28]; rfl), rfl, rfl, rfl, rfl, rfl, trivial⟩
          refine GL.val trivial rfl (OV.pickF (b := (decide (((c23.toNat : Int) : Int) ≥ 97)) && (decide (((c23.toNat : Int) : Int) ≤ 122))) (v := .bool ((decide (((c23.toNat : Int) : Int) ≥ 65)) && (decide (((c23.toNat : Int) : Int) ≤ 90)))) rfl hc27 rfl) ?_
          exact GL.jump0 (fun _ _ h => h) () rfl ⟨(by rw [hc27]; rfl), rfl, rfl, rfl, rfl, trivial⟩
      refine GL.val trivial rfl (OV.move (v := .bool (((decide (((c23.toNat : Int) : Int) ≥ 97)) && (decide (((c23.toNat : Int) : Int) ≤ 122))) || ((decide (((c23.toNat : Int) : Int) ≥ 65)) && (decide (((c23.toNat : Int) : Int) ≤ 90))))) rfl) ?_
      refine GL.cut0 7 [(51, .bool ((((decide (((c23.toNat : Int) : Int) ≥ 97)) && (decide (((c23.toNat : Int) : Int) ≤ 122))) || ((decide (((c23.toNat : Int) : Int) ≥ 65)) && (decide (((c23.toNat : Int) : Int) ≤ 90)))) || ((decide (((c23.toNat : Int) : Int) ≥ 48)) && (decide (((c23.toNat : Int) : Int) ≤ 57))))), (0, sv p_s), (4, .int .u8 (c23.toNat : Int)), (23, .int .i64 (List.length p_s : Int)), (24, .int .i64 x19)] ?_ ?_
      · rcases Bool.eq_false_or_eq_true (((decide (((c23.toNat : Int) : Int) ≥ 97)) && (decide (((c23.toNat : Int) : Int) ≤ 122))) || ((decide (((c23.toNat : Int) : Int) ≥ 65)) && (decide (((c23.toNat : Int) : Int) ≤ 90)))) with hc29 | hc29
        · skip
          refine GL.skip ⟨_, rfl, .inl ⟨_, rfl, hc29⟩⟩ rfl ?_
          refine GL.skip ⟨_, rfl, .inl ⟨_, rfl, hc29⟩⟩ rfl ?_
          refine GL.skip ⟨_, rfl, .inl ⟨_, rfl, hc29⟩⟩ rfl ?_
          refine GL.skip ⟨_, rfl, .inr rfl⟩ rfl ?_
          refine GL.skip ⟨_, rfl, .inr rfl⟩ rfl ?_
          refine GL.skip ⟨_, rfl, .inl ⟨_, rfl, hc29⟩⟩ rfl ?_
          refine GL.val trivial rfl (OV.pickT (b := ((decide (((c23.toNat : Int) : Int) ≥ 97)) && (decide (((c23.toNat : Int) : Int) ≤ 122))) || ((decide (((c23.toNat : Int) : Int) ≥ 65)) && (decide (((c23.toNat : Int) : Int) ≤ 90)))) (v := .bool true) rfl hc29 rfl) ?_
          exact GL.jump0 (fun _ _ h => h) () rfl ⟨(by rw [hc29]; rfl), rfl, rfl, rfl, rfl, trivial⟩
        · skip
          refine GL.val ⟨_, _, rfl, rfl, hc29⟩ rfl (OV.move (v := .int .u8 (c23.toNat : Int)) rfl) ?_
          refine GL.val ⟨_, _, rfl, rfl, hc29⟩ rfl (OV.ibin (v := .bool (decide (((c23.toNat : Int) : Int) ≥ 48))) rfl rfl rfl) ?_
          refine GL.val ⟨_, _, rfl, rfl, hc29⟩ rfl (OV.move (v := .bool (decide (((c23.toNat : Int) : Int) ≥ 48))) rfl) ?_
          refine GL.cut0 3 [(50, .bool ((decide (((c23.toNat : Int) : Int) ≥ 48)) && (decide (((c23.toNat : Int) : Int) ≤ 57)))), (0, sv p_s), (4, .int .u8 (c23.toNat : Int)), (23, .int .i64 (List.length p_s : Int)), (24, .int .i64 x19), (44, .bool (((decide (((c23.toNat : Int) : Int) ≥ 97)) && (decide (((c23.toNat : Int) : Int) ≤ 122))) || ((decide (((c23.toNat : Int) : Int) ≥ 65)) && (decide (((c23.toNat : Int) : Int) ≤ 90)))))] ?_ ?_
          · rcases Bool.eq_false_or_eq_true (decide (((c23.toNat : Int) : Int) ≥ 48)) with hc30 | hc30
            · skip
              refine GL.val ⟨_, _, rfl, rfl, hc30⟩ rfl (OV.move (v := .int .u8 (c23.toNat : Int)) rfl) ?_
              refine GL.val ⟨_, _, rfl, rfl, hc30⟩ rfl (OV.ibin (v := .bool (decide (((c23.toNat : Int) : Int) ≤ 57))) rfl rfl rfl) ?_
              refine GL.val ⟨_, _, rfl, rfl, hc29⟩ rfl (OV.pickT (b := decide (((c23.toNat : Int) : Int) ≥ 48)) (v := .bool (decide (((c23.toNat : Int) : Int) ≤ 57))) rfl hc30 rfl) ?_
              exact GL.jump0 (fun _ _ h => h) () rfl ⟨(by rw [hc30]; rfl), rfl, rfl, rfl, rfl, rfl, trivial⟩
            · skip
              refine GL.skip ⟨_, rfl, .inl ⟨_, rfl, hc30⟩⟩ rfl ?_
              refine GL.skip ⟨_, rfl, .inl ⟨_, rfl, hc30⟩⟩ rfl ?_
              refine GL.val ⟨_, _, rfl, rfl, hc29⟩ rfl (OV.pickF (b := decide (((c23.toNat : Int) : Int) ≥ 48)) (v := .bool false) rfl hc30 rfl) ?_
              exact GL.jump0 (fun _ _ h => h) () rfl ⟨(by rw [hc30]; rfl), rfl, rfl, rfl, rfl, rfl, trivial⟩
          refine GL.val trivial rfl (OV.pickF (b := ((decide (((c23.toNat : Int) : Int) ≥ 97)) && (decide (((c23.toNat : Int) : Int) ≤ 122))) || ((decide (((c23.toNat : Int) : Int) ≥ 65)) && (decide (((c23.toNat : Int) : Int) ≤ 90)))) (v := .bool ((decide (((c23.toNat : Int) : Int) ≥ 48)) && (decide (((c23.toNat : Int) : Int) ≤ 57)))) rfl hc29 rfl) ?_
          exact GL.jump0 (fun _ _ h => h) () rfl ⟨(by rw [hc29]; rfl), rfl, rfl, rfl, rfl, trivial⟩
      refine GL.val trivial rfl (OV.move (v := .bool ((((decide (((c23.toNat : Int) : Int) ≥ 97)) && (decide (((c23.toNat : Int) : Int) ≤ 122))) || ((decide (((c23.toNat : Int) : Int) ≥ 65)) && (decide (((c23.toNat : Int) : Int) ≤ 90)))) || ((decide (((c23.toNat : Int) : Int) ≥ 48)) && (decide (((c23.toNat : Int) : Int) ≤ 57))))) rfl) ?_
      refine GL.cut0 3 [(55, .bool (((((decide (((c23.toNat : Int) : Int) ≥ 97)) && (decide (((c23.toNat : Int) : Int) ≤ 122))) || ((decide (((c23.toNat : Int) : Int) ≥ 65)) && (decide (((c23.toNat : Int) : Int) ≤ 90)))) || ((decide (((c23.toNat : Int) : Int) ≥ 48)) && (decide (((c23.toNat : Int) : Int) ≤ 57)))) || (((c23.toNat : Int) : Int) == 95))), (0, sv p_s), (23, .int .i64 (List.length p_s : Int)), (24, .int .i64 x19)] ?_ ?_
      · rcases Bool.eq_false_or_eq_true ((((decide (((c23.toNat : Int) : Int) ≥ 97)) && (decide (((c23.toNat : Int) : Int) ≤ 122))) || ((decide (((c23.toNat : Int) : Int) ≥ 65)) && (decide (((c23.toNat : Int) : Int) ≤ 90)))) || ((decide (((c23.toNat : Int) : Int) ≥ 48)) && (decide (((c23.toNat : Int) : Int) ≤ 57)))) with hc31 | hc31
        · skip
          refine GL.skip ⟨_, rfl, .inl ⟨_, rfl, hc31⟩⟩ rfl ?_
          refine GL.skip ⟨_, rfl, .inl ⟨_, rfl, hc31⟩⟩ rfl ?_
          refine GL.val trivial rfl (OV.pickT (b := (((decide (((c23.toNat : Int) : Int) ≥ 97)) && (decide (((c23.toNat : Int) : Int) ≤ 122))) || ((decide (((c23.toNat : Int) : Int) ≥ 65)) && (decide (((c23.toNat : Int) : Int) ≤ 90)))) || ((decide (((c23.toNat : Int) : Int) ≥ 48)) && (decide (((c23.toNat : Int) : Int) ≤ 57)))) (v := .bool true) rfl hc31 rfl) ?_
          exact GL.jump0 (fun _ _ h => h) () rfl ⟨(by rw [hc31]; rfl), rfl, rfl, rfl, trivial⟩
        · skip
          refine GL.val ⟨_, _, rfl, rfl, hc31⟩ rfl (OV.move (v := .int .u8 (c23.toNat : Int)) rfl) ?_
          refine GL.val ⟨_, _, rfl, rfl, hc31⟩ rfl (OV.ibin (v := .bool (((c23.toNat : Int) : Int) == 95)) rfl rfl rfl) ?_
          refine GL.val trivial rfl (OV.pickF (b := (((decide (((c23.toNat : Int) : Int) ≥ 97)) && (decide (((c23.toNat : Int) : Int) ≤ 122))) || ((decide (((c23.toNat : Int) : Int) ≥ 65)) && (decide (((c23.toNat : Int) : Int) ≤ 90)))) || ((decide (((c23.toNat : Int) : Int) ≥ 48)) && (decide (((c23.toNat : Int) : Int) ≤ 57)))) (v := .bool (((c23.toNat : Int) : Int) == 95)) rfl hc31 rfl) ?_
          exact GL.jump0 (fun _ _ h => h) () rfl ⟨(by rw [hc31]; rfl), rfl, rfl, rfl, trivial⟩
      refine GL.val trivial rfl (OV.not rfl) ?_
      refine GL.nil ?_
      refine GC.cond (b := !(((((decide (((c23.toNat : Int) : Int) ≥ 97)) && (decide (((c23.toNat : Int) : Int) ≤ 122))) || ((decide (((c23.toNat : Int) : Int) ≥ 65)) && (decide (((c23.toNat : Int) : Int) ≤ 90)))) || ((decide (((c23.toNat : Int) : Int) ≥ 48)) && (decide (((c23.toNat : Int) : Int) ≤ 57)))) || (((c23.toNat : Int) : Int) == 95))) rfl (fun hc32 => ?_) (fun hc32 => ?_)
      · replace h := And.left h hc32
        refine GC.seq ?_
        refine GC.region ?_
        refine GL.val trivial rfl (OV.assign (v := .bool false) rfl) ?_
        refine GL.nil ?_
        exact GC.ret (fun _ _ hf hs => post_tmp1 rfl rfl hf hs ⟨false, rfl, h⟩)
      · replace h := And.right h hc32
        refine GC.skip_to (fun _ _ h => h) ?_
        refine GC.region ?_
        refine GL.val trivial rfl (OV.ibin (v := .int .i64 (w .i64 (x19 + 1))) rfl rfl rfl) ?_
        refine GL.val trivial rfl (OV.move (v := .int .i64 (w .i64 (x19 + 1))) rfl) ?_
        exact GL.jump (fun _ _ h => h) (w .i64 (x19 + 1)) h ⟨rfl, rfl, rfl, trivial⟩
    · replace h := And.right h hc22
      refine GC.exit_to (fun _ _ h => h) ?_
      refine GC.seq ?_
      refine GC.region ?_
      refine GL.val trivial rfl (OV.assign (v := .bool true) rfl) ?_
      refine GL.nil ?_
      exact GC.ret (fun _ _ hf hs => post_tmp1 rfl rfl hf hs ⟨true, rfl, h⟩)

def sh_strings_CutPrefix (C : Ctx) (p_s : Str) (p_prefix : Str) (K : Str → Bool → Heap → Prop) (H : Heap) : Prop :=
  c_internal_stringslite_CutPrefix C p_s p_prefix (fun r1 r2 H3 =>
 K r1 r2 H3) H

theorem ad_strings_CutPrefix (C : Ctx) (p_s : Str) (p_prefix : Str) (K : Str → Bool → Heap → Prop) (H : Heap) (h : sh_strings_CutPrefix C p_s p_prefix K H) : c_strings_CutPrefix C p_s p_prefix K H := by
  refine Spec.enter Tryd.func94 rfl Tryd.ntmps94 rfl ?_
  refine GC.sub [(0, sv p_s), (1, sv p_prefix)] ⟨rfl, rfl, trivial⟩ ?_
  refine GC.seq ?_
  refine GC.region ?_
  refine GL.val trivial rfl (OV.assign (v := sv []) rfl) ?_
  refine GL.val trivial rfl (OV.assign (v := .bool false) rfl) ?_
  refine GL.nil ?_
  refine GC.seq ?_
  refine GC.region ?_
  refine GL.val trivial rfl (OV.move (v := sv p_s) rfl) ?_
  refine GL.val trivial rfl (OV.move (v := sv p_prefix) rfl) ?_
  refine GL.call h trivial rfl ok_internal_stringslite_CutPrefix (vs := [sv p_s, sv p_prefix]) rfl ?_
  rintro _ H3 ⟨r1, r2, rfl, h⟩
  refine GL.val trivial rfl (OV.extract (v := sv r1) rfl rfl) ?_
  refine GL.val trivial rfl (OV.extract (v := .bool r2) rfl rfl) ?_
  refine GL.val trivial rfl (OV.assign (v := sv r1) rfl) ?_
  refine GL.val trivial rfl (OV.assign (v := .bool r2) rfl) ?_
  refine GL.nil ?_
  exact GC.ret (fun _ _ hf hs => post_tmp2 rfl rfl rfl hf hs ⟨r1, r2, rfl, h⟩)

def sh_ref02_Name (C : Ctx) (p_s : Str) (K : Bool → Heap → Prop) (H : Heap) : Prop :=
  jn (α := Bool) (fun b2 H11 =>
 ift b2
 (K false H11)
 (lp (α := Int) 0 H11 (fun x13 J14 H15 =>
 ift (decide ((x13 : Int) < (List.length p_s : Int)))
 (ixs p_s x13 fun c17 =>
 c_ref02_letter C (c17.toNat : Int) (fun r20 H21 =>
 ift ((((!r20) && (!((decide (((c17.toNat : Int) : Int) ≥ 65)) && (decide (((c17.toNat : Int) : Int) ≤ 90))))) && (!((decide (((c17.toNat : Int) : Int) ≥ 48)) && (decide (((c17.toNat : Int) : Int) ≤ 57))))) && (((c17.toNat : Int) : Int) != 95))
 (K false H21)
 (J14 (w .i64 (x13 + 1)) H21)) H15)
 (K true H15))))
 (fun J3 => ift ((p_s == ([] : Str)) || (decide (((List.length p_s : Int) : Int) > 32)))
 (J3 true H)
 (ixs p_s 0 fun c6 =>
 c_ref02_letter C (c6.toNat : Int) (fun r9 H10 =>
 J3 (!r9) H10) H))

theorem ad_ref02_Name (C : Ctx) (p_s : Str) (K : Bool → Heap → Prop) (H : Heap) (h : sh_ref02_Name C p_s K H) : c_ref02_Name C p_s K H := by
  refine Spec.enter Tryd.func95 rfl Tryd.ntmps95 rfl ?_
  refine GC.sub [(0, sv p_s)] ⟨rfl, trivial⟩ ?_
  refine GC.seq ?_
  refine GC.region ?_
  refine GL.val trivial rfl (OV.assign (v := .bool false) rfl) ?_
  refine GL.nil ?_
  refine GC.seq ?_
  refine GC.seq ?_
  refine GC.region ?_
  refine GL.val trivial rfl (OV.move (v := sv p_s) rfl) ?_
  refine GL.val trivial rfl (OV.sbin (a := p_s) (b := ([] : Str)) (v := .bool (p_s == ([] : Str))) rfl rfl rfl) ?_
  refine GL.val trivial rfl (OV.move (v := .bool (p_s == ([] : Str))) rfl) ?_
  refine GL.cut0 4 [(11, .bool ((p_s == ([] : Str)) || (decide (((List.length p_s : Int) : Int) > 32)))), (0, sv p_s)] ?_ ?_
  · rcases Bool.eq_false_or_eq_true (p_s == ([] : Str)) with hc1 | hc1
    · skip
      refine GL.skip ⟨_, rfl, .inl ⟨_, rfl, hc1⟩⟩ rfl ?_
      refine GL.skip ⟨_, rfl, .inl ⟨_, rfl, hc1⟩⟩ rfl ?_
      refine GL.skip ⟨_, rfl, .inl ⟨_, rfl, hc1⟩⟩ rfl ?_
      refine GL.val trivial rfl (OV.pickT (b := p_s == ([] : Str)) (v := .bool true) rfl hc1 rfl) ?_
      exact GL.jump0 (fun _ _ h => h) () rfl ⟨(by rw [hc1]; rfl), rfl, trivial⟩
    · skip
      refine GL.val ⟨_, _, rfl, rfl, hc1⟩ rfl (OV.move (v := sv p_s) rfl) ?_
      refine GL.val ⟨_, _, rfl, rfl, hc1⟩ rfl (OV.lenStr (s := p_s) rfl rfl) ?_
      refine GL.val ⟨_, _, rfl, rfl, hc1⟩ rfl (OV.ibin (v := .bool (decide (((List.length p_s : Int) : Int) > 32))) rfl rfl rfl) ?_
      refine GL.val trivial rfl (OV.pickF (b := p_s == ([] : Str)) (v := .bool (decide (((List.length p_s : Int) : Int) > 32))) rfl hc1 rfl) ?_
      exact GL.jump0 (fun _ _ h => h) () rfl ⟨(by rw [hc1]; rfl), rfl, trivial⟩
  refine GL.val trivial rfl (OV.move (v := .bool ((p_s == ([] : Str)) || (decide (((List.length p_s : Int) : Int) > 32)))) rfl) ?_
  obtain ⟨J3, h, hR4⟩ := h
  refine GL.cut (α := Bool) 5 J3 (fun b2 => [(17, .bool b2), (0, sv p_s)]) ?_ ?_
  · rcases Bool.eq_false_or_eq_true ((p_s == ([] : Str)) || (decide (((List.length p_s : Int) : Int) > 32))) with hc5 | hc5
    · skip
      replace h := And.left h hc5
      refine GL.skip ⟨_, rfl, .inl ⟨_, rfl, hc5⟩⟩ rfl ?_
      refine GL.skip ⟨_, rfl, .inl ⟨_, rfl, hc5⟩⟩ rfl ?_
      refine GL.skip ⟨_, rfl, .inl ⟨_, rfl, hc5⟩⟩ rfl ?_
      refine GL.skip ⟨_, rfl, .inl ⟨_, rfl, hc5⟩⟩ rfl ?_
      refine GL.val trivial rfl (OV.pickT (b := (p_s == ([] : Str)) || (decide (((List.length p_s : Int) : Int) > 32))) (v := .bool true) rfl hc5 rfl) ?_
      exact GL.jump (fun _ _ h => h) true h ⟨rfl, rfl, trivial⟩
    · skip
      replace h := And.right h hc5
      refine GL.val ⟨_, _, rfl, rfl, hc5⟩ rfl (OV.move (v := sv p_s) rfl) ?_
      obtain ⟨c6, ha7, hb8, h⟩ := h
      refine GL.val ⟨_, _, rfl, rfl, hc5⟩ rfl (OV.indexStr (s := p_s) rfl rfl rfl ha7 hb8) ?_
      refine GL.call h ⟨_, _, rfl, rfl, hc5⟩ rfl ok_ref02_letter (vs := [.int .u8 (c6.toNat : Int)]) rfl ?_
      rintro _ H10 ⟨r9, rfl, h⟩
      refine GL.val ⟨_, _, rfl, rfl, hc5⟩ rfl (OV.not rfl) ?_
      refine GL.val trivial rfl (OV.pickF (b := (p_s == ([] : Str)) || (decide (((List.length p_s : Int) : Int) > 32))) (v := .bool (!r9)) rfl hc5 rfl) ?_
      exact GL.jump (fun _ _ h => h) (!r9) h ⟨rfl, rfl, trivial⟩
  intro b2 H11 h
  replace h := hR4 b2 H11 h
  refine GL.nil ?_
  refine GC.cond (b := b2) rfl (fun hc12 => ?_) (fun hc12 => ?_)
  · replace h := And.left h hc12
    refine GC.seq ?_
    refine GC.region ?_
    refine GL.val trivial rfl (OV.assign (v := .bool false) rfl) ?_
    refine GL.nil ?_
    exact GC.ret (fun _ _ hf hs => post_tmp1 rfl rfl hf hs ⟨false, rfl, h⟩)
  · replace h := And.right h hc12
    refine GC.skip ?_
    refine GC.seq ?_
    refine GC.seq ?_
    refine GC.region ?_
    refine GL.val trivial rfl (OV.assign (v := .int .i64 0) rfl) ?_
    refine GL.nil ?_
    refine GC.block ?_
    refine GC.loop (α := Int) h (fun x13 => [(3, .int .i64 x13), (0, sv p_s)]) ⟨rfl, rfl, trivial⟩ ?_
    intro x13 H15 J14 h
    refine GC.seq ?_
    refine GC.seq ?_
    refine GC.region ?_
    refine GL.val trivial rfl (OV.move (v := .int .i64 x13) rfl) ?_
    refine GL.val trivial rfl (OV.move (v := sv p_s) rfl) ?_
    refine GL.val trivial rfl (OV.lenStr (s := p_s) rfl rfl) ?_
    refine GL.val trivial rfl (OV.ibin (v := .bool (decide ((x13 : Int) < (List.length p_s : Int)))) rfl rfl rfl) ?_
    refine GL.nil ?_
    refine GC.cond (b := decide ((x13 : Int) < (List.length p_s : Int))) rfl (fun hc16 => ?_) (fun hc16 => ?_)
    · replace h := And.left h hc16
      refine GC.skip ?_
      refine GC.seq ?_
      refine GC.block ?_
      refine GC.seq ?_
      refine GC.region ?_
      refine GL.val trivial rfl (OV.move (v := sv p_s) rfl) ?_
      refine GL.val trivial rfl (OV.move (v := .int .i64 x13) rfl) ?_
      obtain ⟨c17, ha18, hb19, h⟩ := h
      refine GL.val trivial rfl (OV.indexStr (s := p_s) rfl rfl rfl ha18 hb19) ?_
      refine GL.val trivial rfl (OV.assign (v := .int .u8 (c17.toNat : Int)) rfl) ?_
      refine GL.nil ?_
      refine GC.seq ?_
      refine GC.region ?_
      refine GL.val trivial rfl (OV.move (v := .int .u8 (c17.toNat : Int)) rfl) ?_
      refine GL.call h trivial rfl ok_ref02_letter (vs := [.int .u8 (c17.toNat : Int)]) rfl ?_
      rintro _ H21 ⟨r20, rfl, h⟩
      refine GL.val trivial rfl (OV.not rfl) ?_
      refine GL.val trivial rfl (OV.move (v := .bool (!r20)) rfl) ?_
      refine GL.cut0 8 [(38, .bool ((!r20) && (!((decide (((c17.toNat : Int) : Int) ≥ 65)) && (decide (((c17.toNat : Int) : Int) ≤ 90)))))), (0, sv p_s), (3, .int .i64 x13), (4, .int .u8 (c17.toNat : Int))] ?_ ?_
      · rcases Bool.eq_false_or_eq_true (!r20) with hc22 | hc22
        · skip
          refine GL.val ⟨_, _, rfl, rfl, hc22⟩ rfl (OV.move (v := .int .u8 (c17.toNat : Int)) rfl) ?_
          refine GL.val ⟨_, _, rfl, rfl, hc22⟩ rfl (OV.ibin (v := .bool (decide (((c17.toNat : Int) : Int) ≥ 65))) rfl rfl rfl) ?_
          refine GL.val ⟨_, _, rfl, rfl, hc22⟩ rfl (OV.move (v := .bool (decide (((c17.toNat : Int) : Int) ≥ 65))) rfl) ?_
          refine GL.cut0 3 [(36, .bool ((decide (((c17.toNat : Int) : Int) ≥ 65)) && (decide (((c17.toNat : Int) : Int) ≤ 90)))), (0, sv p_s), (3, .int .i64 x13), (4, .int .u8 (c17.toNat : Int)), (30, .bool (!r20))] ?_ ?_
          · rcases Bool.eq_false_or_eq_true (decide (((c17.toNat : Int) : Int) ≥ 65)) with hc23 | hc23
            · skip
              refine GL.val ⟨_, _, rfl, rfl, hc23⟩ rfl (OV.move (v := .int .u8 (c17.toNat : Int)) rfl) ?_
              refine GL.val ⟨_, _, rfl, rfl, hc23⟩ rfl (OV.ibin (v := .bool (decide (((c17.toNat : Int) : Int) ≤ 90))) rfl rfl rfl) ?_
              refine GL.val ⟨_, _, rfl, rfl, hc22⟩ rfl (OV.pickT (b := decide (((c17.toNat : Int) : Int) ≥ 65)) (v := .bool (decide (((c17.toNat : Int) : Int) ≤ 90))) rfl hc23 rfl) ?_
              exact GL.jump0 (fun _ _ h => h) () rfl ⟨(by rw [hc23]; rfl), rfl, rfl, rfl, rfl, trivial⟩
            · skip
              refine GL.skip ⟨_, rfl, .inl ⟨_, rfl, hc23⟩⟩ rfl ?_
              refine GL.skip ⟨_, rfl, .inl ⟨_, rfl, hc23⟩⟩ rfl ?_
              refine GL.val ⟨_, _, rfl, rfl, hc22⟩ rfl (OV.pickF (b := decide (((c17.toNat : Int) : Int) ≥ 65)) (v := .bool false) rfl hc23 rfl) ?_
              exact GL.jump0 (fun _ _ h => h) () rfl ⟨(by rw [hc23]; rfl), rfl, rfl, rfl, rfl, trivial⟩
          refine GL.val ⟨_, _, rfl, rfl, hc22⟩ rfl (OV.not rfl) ?_
          refine GL.val trivial rfl (OV.pickT (b := !r20) (v := .bool (!((decide (((c17.toNat : Int) : Int) ≥ 65)) && (decide (((c17.toNat : Int) : Int) ≤ 90))))) rfl hc22 rfl) ?_
          exact GL.jump0 (fun _ _ h => h) () rfl ⟨(by rw [hc22]; rfl), rfl, rfl, rfl, trivial⟩
        · skip
          refine GL.skip ⟨_, rfl, .inl ⟨_, rfl, hc22⟩⟩ rfl ?_
          refine GL.skip ⟨_, rfl, .inl ⟨_, rfl, hc22⟩⟩ rfl ?_
          refine GL.skip ⟨_, rfl, .inl ⟨_, rfl, hc22⟩⟩ rfl ?_
          refine GL.skip ⟨_, rfl, .inr rfl⟩ rfl ?_
          refine GL.skip ⟨_, rfl, .inr rfl⟩ rfl ?_
          refine GL.skip ⟨_, rfl, .inl ⟨_, rfl, hc22⟩⟩ rfl ?_
          refine GL.skip ⟨_, rfl, .inl ⟨_, rfl, hc22⟩⟩ rfl ?_
          refine GL.val trivial rfl (OV.pickF (b := !r20) (v := .bool false) rfl hc22 rfl) ?_
          exact GL.jump0 (fun _ _ h => h) () rfl ⟨(by rw [hc22]; rfl), rfl, rfl, rfl, trivial⟩
      refine GL.val trivial rfl (OV.move (v := .bool ((!r20) && (!((decide (((c17.toNat : Int) : Int) ≥ 65)) && (decide (((c17.toNat : Int) : Int) ≤ 90)))))) rfl) ?_
      refine GL.cut0 8 [(47, .bool (((!r20) && (!((decide (((c17.toNat : Int) : Int) ≥ 65)) && (decide (((c17.toNat : Int) : Int) ≤ 90))))) && (!((decide (((c17.toNat : Int) : Int) ≥ 48)) && (decide (((c17.toNat : Int) : Int) ≤ 57)))))), (0, sv p_s), (3, .int .i64 x13), (4, .int .u8 (c17.toNat : Int))] ?_ ?_
      · rcases Bool.eq_false_or_eq_true ((!r20) && (!((decide (((c17.toNat : Int) : Int) ≥ 65)) && (decide (((c17.toNat : Int) : Int) ≤ 90))))) with hc24 | hc24
        · skip
          refine GL.val ⟨_, _, rfl, rfl, hc24⟩ rfl (OV.move (v := .int .u8 (c17.toNat : Int)) rfl) ?_
          refine GL.val ⟨_, _, rfl, rfl, hc24⟩ rfl (OV.ibin (v := .bool (decide (((c17.toNat : Int) : Int) ≥ 48))) rfl rfl rfl) ?_
          refine GL.val ⟨_, _, rfl, rfl, hc24⟩ rfl (OV.move (v := .bool (decide (((c17.toNat : Int) : Int) ≥ 48))) rfl) ?_
          refine GL.cut0 3 [(45, .bool ((decide (((c17.toNat : Int) : Int) ≥ 48)) && (decide (((c17.toNat : Int) : Int) ≤ 57)))), (0, sv p_s), (3, .int .i64 x13), (4, .int .u8 (c17.toNat : Int)), (39, .bool ((!r20) && (!((decide (((c17.toNat : Int) : Int) ≥ 65)) && (decide (((c17.toNat : Int) : Int) ≤ 90))))))] ?_ ?_
          · rcases Bool.eq_false_or_eq_true (decide (((c17.toNat : Int) : Int) ≥ 48)) with hc25 | hc25
            · skip
              refine GL.val ⟨_, _, rfl, rfl, hc25⟩ rfl (OV.move (v := .int .u8 (c17.toNat : Int)) rfl) ?_
              refine GL.val ⟨_, _, rfl, rfl, hc25⟩ rfl (OV.ibin (v := .bool (decide (((c17.toNat : Int) : Int) ≤ 57))) rfl rfl rfl) ?_
              refine GL.val ⟨_, _, rfl, rfl, hc24⟩ rfl (OV.pickT (b := decide (((c17.toNat : Int) : Int) ≥ 48)) (v := .bool (decide (((c17.toNat : Int) : Int) ≤ 57))) rfl hc25 rfl) ?_
              exact GL.jump0 (fun _ _ h => h) () rfl ⟨(by rw [hc25]; rfl), rfl, rfl, rfl, rfl, trivial⟩
            · skip
              refine GL.skip ⟨_, rfl, .inl ⟨_, rfl, hc25⟩⟩ rfl ?_
              refine GL.skip ⟨_, rfl, .inl ⟨_, rfl, hc25⟩⟩ rfl ?_
              refine GL.val ⟨_, _, rfl, rfl, hc24⟩ rfl (OV.pickF (b := decide (((c17.toNat : Int) : Int) ≥ 48)) (v := .bool false) rfl hc25 rfl) ?_
              exact GL.jump0 (fun _ _ h => h) () rfl ⟨(by rw [hc25]; rfl), rfl, rfl, rfl, rfl, trivial⟩
          refine GL.val ⟨_, _, rfl, rfl, hc24⟩ rfl (OV.not rfl) ?_
          refine GL.val trivial rfl (OV.pickT (b := (!r20) && (!((decide (((c17.toNat : Int) : Int) ≥ 65)) && (decide (((c17.toNat : Int) : Int) ≤ 90))))) (v := .bool (!((decide (((c17.toNat : Int) : Int) ≥ 48)) && (decide (((c17.toNat : Int) : Int) ≤ 57))))) rfl hc24 rfl) ?_
          exact GL.jump0 (fun _ _ h => h) () rfl ⟨(by rw [hc24]; rfl), rfl, rfl, rfl, trivial⟩
        · skip
          refine GL.skip ⟨_, rfl, .inl ⟨_, rfl, hc24⟩⟩ rfl ?_
          refine GL.skip ⟨_, rfl, .inl ⟨_, rfl, hc24⟩⟩ rfl ?_
          refine GL.skip ⟨_, rfl, .inl ⟨_, rfl, hc24⟩⟩ rfl ?_
          refine GL.skip ⟨_, rfl, .inr rfl⟩ rfl ?_
          refine GL.skip ⟨_, rfl, .inr rfl⟩ rfl ?_
          refine GL.skip ⟨_, rfl, .inl ⟨_, rfl, hc24⟩⟩ rfl ?_
          refine GL.skip ⟨_, rfl, .inl ⟨_, rfl, hc24⟩⟩ rfl ?_
          refine GL.val trivial rfl (OV.pickF (b := (!r20) && (!((decide (((c17.toNat : Int) : Int) ≥ 65)) && (decide (((c17.toNat : Int) : Int) ≤ 90))))) (v := .bool false) rfl hc24 rfl) ?_
          exact GL.jump0 (fun _ _ h => h) () rfl ⟨(by rw [hc24]; rfl), rfl, rfl, rfl, trivial⟩
      refine GL.val trivial rfl (OV.move (v := .bool (((!r20) && (!((decide (((c17.toNat : Int) : Int) ≥ 65)) && (decide (((c17.toNat : Int) : Int) ≤ 90))))) && (!((decide (((c17.toNat : Int) : Int) ≥ 48)) && (decide (((c17.toNat : Int) : Int) ≤ 57)))))) rfl) ?_
      refine GL.cut0 3 [(51, .bool ((((!r20) && (!((decide (((c17.toNat : Int) : Int) ≥ 65)) && (decide (((c17.toNat : Int) : Int) ≤ 90))))) && (!((decide (((c17.toNat : Int) : Int) ≥ 48)) && (decide (((c17.toNat : Int) : Int) ≤ 57))))) && (((c17.toNat : Int) : Int) != 95))), (0, sv p_s), (3, .int .i64 x13)] ?_ ?_
      · rcases Bool.eq_false_or_eq_true (((!r20) && (!((decide (((c17.toNat : Int) : Int) ≥ 65)) && (decide (((c17.toNat : Int) : Int) ≤ 90))))) && (!((decide (((c17.toNat : Int) : Int) ≥ 48)) && (decide (((c17.toNat : Int) : Int) ≤ 57))))) with hc26 | hc26
        · skip
          refine GL.val ⟨_, _, rfl, rfl, hc26⟩ rfl (OV.move (v := .int .u8 (c17.toNat : Int)) rfl) ?_
          refine GL.val ⟨_, _, rfl, rfl, hc26⟩ rfl (OV.ibin (v := .bool (((c17.toNat : Int) : Int) != 95)) rfl rfl rfl) ?_
          refine GL.val trivial rfl (OV.pickT (b := ((!r20) && (!((decide (((c17.toNat : Int) : Int) ≥ 65)) && (decide (((c17.toNat : Int) : Int) ≤ 90))))) && (!((decide (((c17.toNat : Int) : Int) ≥ 48)) && (decide (((c17.toNat : Int) : Int) ≤ 57))))) (v := .bool (((c17.toNat : Int) : Int) != 95)) rfl hc26 rfl) ?_
          exact GL.jump0 (fun _ _ h => h) () rfl ⟨(by rw [hc26]; rfl), rfl, rfl, trivial⟩
        · skip
          refine GL.skip ⟨_, rfl, .inl ⟨_, rfl, hc26⟩⟩ rfl ?_
          refine GL.skip ⟨_, rfl, .inl ⟨_, rfl, hc26⟩⟩ rfl ?_
          refine GL.val trivial rfl (OV.pickF (b := ((!r20) && (!((decide (((c17.toNat : Int) : Int) ≥ 65)) && (decide (((c17.toNat : Int) : Int) ≤ 90))))) && (!((decide (((c17.toNat : Int) : Int) ≥ 48)) && (decide (((c17.toNat : Int) : Int) ≤ 57))))) (v := .bool false) rfl hc26 rfl) ?_
          exact GL.jump0 (fun _ _ h => h) () rfl ⟨(by rw [hc26]; rfl), rfl, rfl, trivial⟩
      refine GL.nil ?_
      refine GC.cond (b := (((!r20) && (!((decide (((c17.toNat : Int) : Int) ≥ 65)) && (decide (((c17.toNat : Int) : Int) ≤ 90))))) && (!((decide (((c17.toNat : Int) : Int) ≥ 48)) && (decide (((c17.toNat : Int) : Int) ≤ 57))))) && (((c17.toNat : Int) : Int) != 95)) rfl (fun hc27 => ?_) (fun hc27 => ?_)
      · replace h := And.left h hc27
        refine GC.seq ?_
        refine GC.region ?_
        refine GL.val trivial rfl (OV.assign (v := .bool false) rfl) ?_
        refine GL.nil ?_
        exact GC.ret (fun _ _ hf hs => post_tmp1 rfl rfl hf hs ⟨false, rfl, h⟩)
      · replace h := And.right h hc27
        refine GC.skip_to (fun _ _ h => h) ?_
        refine GC.region ?_
        refine GL.val trivial rfl (OV.move (v := .int .i64 x13) rfl) ?_
        refine GL.val trivial rfl (OV.ibin (v := .int .i64 (w .i64 (x13 + 1))) rfl rfl rfl) ?_
        refine GL.val trivial rfl (OV.assign (v := .int .i64 (w .i64 (x13 + 1))) rfl) ?_
        exact GL.jump (fun _ _ h => h) (w .i64 (x13 + 1)) h ⟨rfl, rfl, trivial⟩
    · replace h := And.right h hc16
      refine GC.exit_to (fun _ _ h => h) ?_
      refine GC.seq ?_
      refine GC.region ?_
      refine GL.val trivial rfl (OV.assign (v := .bool true) rfl) ?_
      refine GL.nil ?_
      exact GC.ret (fun _ _ hf hs => post_tmp1 rfl rfl hf hs ⟨true, rfl, h⟩)

def sh_strings_TrimPrefix (C : Ctx) (p_s : Str) (p_prefix : Str) (K : Str → Heap → Prop) (H : Heap) : Prop :=
  c_internal_stringslite_TrimPrefix C p_s p_prefix (fun r1 H2 =>
 K r1 H2) H

theorem ad_strings_TrimPrefix (C : Ctx) (p_s : Str) (p_prefix : Str) (K : Str → Heap → Prop) (H : Heap) (h : sh_strings_TrimPrefix C p_s p_prefix K H) : c_strings_TrimPrefix C p_s p_prefix K H := by
  refine Spec.enter Tryd.func96 rfl Tryd.ntmps96 rfl ?_
  refine GC.sub [(0, sv p_s), (1, sv p_prefix)] ⟨rfl, rfl, trivial⟩ ?_
  refine GC.seq ?_
  refine GC.region ?_
  refine GL.val trivial rfl (OV.assign (v := sv []) rfl) ?_
  refine GL.nil ?_
  refine GC.seq ?_
  refine GC.region ?_
  refine GL.val trivial rfl (OV.move (v := sv p_s) rfl) ?_
  refine GL.val trivial rfl (OV.move (v := sv p_prefix) rfl) ?_
  refine GL.call h trivial rfl ok_internal_stringslite_TrimPrefix (vs := [sv p_s, sv p_prefix]) rfl ?_
  rintro _ H2 ⟨r1, rfl, h⟩
  refine GL.val trivial rfl (OV.assign (v := sv r1) rfl) ?_
  refine GL.nil ?_
  exact GC.ret (fun _ _ hf hs => post_tmp1 rfl rfl hf hs ⟨r1, rfl, h⟩)

def sh_strings_Trim (C : Ctx) (p_s : Str) (p_cutset : Str) (K : Str → Heap → Prop) (H : Heap) : Prop :=
  ift ((p_s == ([] : Str)) || (p_cutset == ([] : Str)))
 (K p_s H)
 (jn (α := Bool) (fun b3 H10 =>
 ift b3
 (dr H10 fun Hs12 =>
 ixs p_cutset 0 fun c14 =>
 ixs p_cutset 0 fun c17 =>
 c_strings_trimRightByte C p_s (c14.toNat : Int) (fun r21 H22 =>
 Heap.le Hs12 H22 ∧
 c_strings_trimLeftByte C r21 (c17.toNat : Int) (fun r24 H25 =>
 Heap.le Hs12 H25 ∧
 K r24 H25) H22) H10)
 (c_strings_makeASCIISet C p_cutset (fun r26 r27 H28 =>
 nw ((List.replicate 256 (.bool false : Value))) (fun b29 H30 =>
 stC 256 (b29, 0) r26 (fun H31 =>
 ift r27
 (c_strings_trimRightASCII C p_s (some (b29, 0)) (fun r35 H36 =>
 c_strings_trimLeftASCII C r35 (some (b29, 0)) (fun r37 H38 =>
 K r37 H38) H36) H31)
 (c_strings_trimRightUnicode C p_s p_cutset (fun r39 H40 =>
 c_strings_trimLeftUnicode C r39 p_cutset (fun r41 H42 =>
 K r41 H42) H40) H31)) H30) H28) H10))
 (fun J4 => ift (((List.length p_cutset : Int) : Int) == 1)
 (ixs p_cutset 0 fun c7 =>
 J4 (decide (((c7.toNat : Int) : Int) < 128)) H)
 (J4 false H)))

theorem ad_strings_Trim (C : Ctx) (p_s : Str) (p_cutset : Str) (K : Str → Heap → Prop) (H : Heap) (h : sh_strings_Trim C p_s p_cutset K H) : c_strings_Trim C p_s p_cutset K H := by
  refine Spec.enter Tryd.func97 rfl Tryd.ntmps97 rfl ?_
  refine GC.sub [(0, sv p_s), (1, sv p_cutset)] ⟨rfl, rfl, trivial⟩ ?_
  refine GC.seq ?_
  refine GC.region ?_
  refine GL.val trivial rfl (OV.assign (v := sv []) rfl) ?_
  refine GL.nil ?_
  refine GC.seq ?_
  refine GC.seq ?_
  refine GC.region ?_
  refine GL.val trivial rfl (OV.move (v := sv p_s) rfl) ?_
  refine GL.val trivial rfl (OV.sbin (a := p_s) (b := ([] : Str)) (v := .bool (p_s == ([] : Str))) rfl rfl rfl) ?_
  refine GL.val trivial rfl (OV.move (v := .bool (p_s == ([] : Str))) rfl) ?_
  refine GL.cut0 3 [(12, .bool ((p_s == ([] : Str)) || (p_cutset == ([] : Str)))), (0, sv p_s), (1, sv p_cutset)] ?_ ?_
  · rcases Bool.eq_false_or_eq_true (p_s == ([] : Str)) with hc1 | hc1
    · skip
      refine GL.skip ⟨_, rfl, .inl ⟨_, rfl, hc1⟩⟩ rfl ?_
      refine GL.skip ⟨_, rfl, .inl ⟨_, rfl, hc1⟩⟩ rfl ?_
      refine GL.val trivial rfl (OV.pickT (b := p_s == ([] : Str)) (v := .bool true) rfl hc1 rfl) ?_
      exact GL.jump0 (fun _ _ h => h) () rfl ⟨(by rw [hc1]; rfl), rfl, rfl, trivial⟩
    · skip
      refine GL.val ⟨_, _, rfl, rfl, hc1⟩ rfl (OV.move (v := sv p_cutset) rfl) ?_
      refine GL.val ⟨_, _, rfl, rfl, hc1⟩ rfl (OV.sbin (a := p_cutset) (b := ([] : Str)) (v := .bool (p_cutset == ([] : Str))) rfl rfl rfl) ?_
      refine GL.val trivial rfl (OV.pickF (b := p_s == ([] : Str)) (v := .bool (p_cutset == ([] : Str))) rfl hc1 rfl) ?_
      exact GL.jump0 (fun _ _ h => h) () rfl ⟨(by rw [hc1]; rfl), rfl, rfl, trivial⟩
  refine GL.nil ?_
  refine GC.cond (b := (p_s == ([] : Str)) || (p_cutset == ([] : Str))) rfl (fun hc2 => ?_) (fun hc2 => ?_)
  · replace h := And.left h hc2
    refine GC.seq ?_
    refine GC.region ?_
    refine GL.val trivial rfl (OV.move (v := sv p_s) rfl) ?_
    refine GL.val trivial rfl (OV.assign (v := sv p_s) rfl) ?_
    refine GL.nil ?_
    exact GC.ret (fun _ _ hf hs => post_tmp1 rfl rfl hf hs ⟨p_s, rfl, h⟩)
  · replace h := And.right h hc2
    refine GC.skip ?_
    refine GC.seq ?_
    refine GC.seq ?_
    refine GC.region ?_
    refine GL.val trivial rfl (OV.move (v := sv p_cutset) rfl) ?_
    refine GL.val trivial rfl (OV.lenStr (s := p_cutset) rfl rfl) ?_
    refine GL.val trivial rfl (OV.ibin (v := .bool (((List.length p_cutset : Int) : Int) == 1)) rfl rfl rfl) ?_
    refine GL.val trivial rfl (OV.move (v := .bool (((List.length p_cutset : Int) : Int) == 1)) rfl) ?_
    obtain ⟨J4, h, hR5⟩ := h
    refine GL.cut (α := Bool) 4 J4 (fun b3 => [(21, .bool b3), (0, sv p_s), (1, sv p_cutset)]) ?_ ?_
    · rcases Bool.eq_false_or_eq_true (((List.length p_cutset : Int) : Int) == 1) with hc6 | hc6
      · skip
        replace h := And.left h hc6
        refine GL.val ⟨_, _, rfl, rfl, hc6⟩ rfl (OV.move (v := sv p_cutset) rfl) ?_
        obtain ⟨c7, ha8, hb9, h⟩ := h
        refine GL.val ⟨_, _, rfl, rfl, hc6⟩ rfl (OV.indexStr (s := p_cutset) rfl rfl rfl ha8 hb9) ?_
        refine GL.val ⟨_, _, rfl, rfl, hc6⟩ rfl (OV.ibin (v := .bool (decide (((c7.toNat : Int) : Int) < 128))) rfl rfl rfl) ?_
        refine GL.val trivial rfl (OV.pickT (b := ((List.length p_cutset : Int) : Int) == 1) (v := .bool (decide (((c7.toNat : Int) : Int) < 128))) rfl hc6 rfl) ?_
        exact GL.jump (fun _ _ h => h) (decide (((c7.toNat : Int) : Int) < 128)) h ⟨rfl, rfl, rfl, trivial⟩
      · skip
        replace h := And.right h hc6
        refine GL.skip ⟨_, rfl, .inl ⟨_, rfl, hc6⟩⟩ rfl ?_
        refine GL.skip ⟨_, rfl, .inl ⟨_, rfl, hc6⟩⟩ rfl ?_
        refine GL.skip ⟨_, rfl, .inl ⟨_, rfl, hc6⟩⟩ rfl ?_
        refine GL.val trivial rfl (OV.pickF (b := ((List.length p_cutset : Int) : Int) == 1) (v := .bool false) rfl hc6 rfl) ?_
        exact GL.jump (fun _ _ h => h) false h ⟨rfl, rfl, rfl, trivial⟩
    intro b3 H10 h
    replace h := hR5 b3 H10 h
    refine GL.nil ?_
    refine GC.cond (b := b3) rfl (fun hc11 => ?_) (fun hc11 => ?_)
    · replace h := And.left h hc11
      refine GC.seq ?_
      obtain ⟨Hs12, hle13, h⟩ := h
      refine GC.any (Hs := Hs12) (by kernel_rfl) hle13 ?_
      refine GA.take 0 rfl (by kernel_rfl) (by kernel_rfl) (by kernel_rfl) (fun _ _ _ h => by obtain ⟨_, _, _, h, _⟩ := h; cases h) trivial rfl (OV.move (v := sv p_s) rfl) ?_
      refine GA.take 1 rfl (by kernel_rfl) (by kernel_rfl) (by kernel_rfl) (fun _ _ _ h => by obtain ⟨_, _, _, h, _⟩ := h; cases h) trivial rfl (OV.move (v := sv p_cutset) rfl) ?_
      obtain ⟨c14, ha15, hb16, h⟩ := h
      refine GA.take 2 rfl (by kernel_rfl) (by kernel_rfl) (by kernel_rfl) (fun _ _ _ h => by obtain ⟨_, _, _, h, _⟩ := h; cases h) trivial rfl (OV.indexStr (s := p_cutset) rfl rfl rfl ha15 hb16) ?_
      refine GA.take 4 rfl (by kernel_rfl) (by kernel_rfl) (by kernel_rfl) (fun _ _ _ h => by obtain ⟨_, _, _, h, _⟩ := h; cases h) trivial rfl (OV.move (v := sv p_cutset) rfl) ?_
      obtain ⟨c17, ha18, hb19, h⟩ := h
      refine GA.take 5 rfl (by kernel_rfl) (by kernel_rfl) (by kernel_rfl) (fun _ _ _ h => by obtain ⟨_, _, _, h, _⟩ := h; cases h) trivial rfl (OV.indexStr (s := p_cutset) rfl rfl rfl ha18 hb19) ?_
      refine GA.eff 3 rfl (by kernel_rfl) ?_
      refine GL.call h trivial rfl ok_strings_trimRightByte (vs := [sv p_s, .int .u8 (c14.toNat : Int)]) rfl ?_
      rintro _ H22 ⟨r21, rfl, h⟩
      obtain ⟨hle20, h⟩ := h
      refine GA.back hle20 ?_
      refine GA.eff 6 rfl (by kernel_rfl) ?_
      refine GL.call h trivial rfl ok_strings_trimLeftByte (vs := [sv r21, .int .u8 (c17.toNat : Int)]) rfl ?_
      rintro _ H25 ⟨r24, rfl, h⟩
      obtain ⟨hle23, h⟩ := h
      refine GA.back hle23 ?_
      refine GA.take 7 rfl (by kernel_rfl) (by kernel_rfl) (by kernel_rfl) (fun _ _ _ h => by obtain ⟨_, _, _, h, _⟩ := h; cases h) trivial rfl (OV.assign (v := sv r24) rfl) ?_
      refine GA.done (by kernel_rfl) ?_
      refine GL.nil ?_
      exact GC.ret (fun _ _ hf hs => post_tmp1 rfl rfl hf hs ⟨r24, rfl, h⟩)
    · replace h := And.right h hc11
      refine GC.skip ?_
      refine GC.seq ?_
      refine GC.seq ?_
      refine GC.region ?_
      refine GL.val trivial rfl (OV.move (v := sv p_cutset) rfl) ?_
      refine GL.call h trivial rfl ok_strings_makeASCIISet (vs := [sv p_cutset]) rfl ?_
      rintro _ H28 ⟨r26, r27, rfl, h⟩
      refine GL.val trivial rfl (OV.move (v := .tuple #[.agg (List.toArray r26), .bool r27]) rfl) ?_
      refine GL.val trivial rfl (OV.extract (v := .agg (List.toArray r26)) rfl rfl) ?_
      refine GL.val trivial rfl (OV.extract (v := .bool r27) rfl rfl) ?_
      refine GL.alloc (cs := (List.replicate 256 (.bool false : Value))) h trivial rfl rfl rfl ?_
      intro b29 H30 h
      obtain ⟨hl32, h133, h⟩ := h
      refine GL.storeT (p := (b29, 0)) (vs := r26) h trivial rfl rfl h133 (by rw [hl32]; rfl) ?_
      intro H31 h
      refine GL.val trivial rfl (OV.assign (v := .bool r27) rfl) ?_
      refine GL.nil ?_
      refine GC.seq ?_
      refine GC.region ?_
      refine GL.val trivial rfl (OV.move (v := .bool r27) rfl) ?_
      refine GL.nil ?_
      refine GC.cond (b := r27) rfl (fun hc34 => ?_) (fun hc34 => ?_)
      · replace h := And.left h hc34
        refine GC.seq ?_
        refine GC.region ?_
        refine GL.val trivial rfl (OV.move (v := sv p_s) rfl) ?_
        refine GL.call h trivial rfl ok_strings_trimRightASCII (vs := [sv p_s, pv (some (b29, 0))]) rfl ?_
        rintro _ H36 ⟨r35, rfl, h⟩
        refine GL.call h trivial rfl ok_strings_trimLeftASCII (vs := [sv r35, pv (some (b29, 0))]) rfl ?_
        rintro _ H38 ⟨r37, rfl, h⟩
        refine GL.val trivial rfl (OV.assign (v := sv r37) rfl) ?_
        refine GL.nil ?_
        exact GC.ret (fun _ _ hf hs => post_tmp1 rfl rfl hf hs ⟨r37, rfl, h⟩)
      · replace h := And.right h hc34
        refine GC.skip ?_
        refine GC.seq ?_
        refine GC.region ?_
        refine GL.val trivial rfl (OV.move (v := sv p_s) rfl) ?_
        refine GL.val trivial rfl (OV.move (v := sv p_cutset) rfl) ?_
        refine GL.call h trivial rfl ok_strings_trimRightUnicode (vs := [sv p_s, sv p_cutset]) rfl ?_
        rintro _ H40 ⟨r39, rfl, h⟩
        refine GL.val trivial rfl (OV.move (v := sv p_cutset) rfl) ?_
        refine GL.call h trivial rfl ok_strings_trimLeftUnicode (vs := [sv r39, sv p_cutset]) rfl ?_
        rintro _ H42 ⟨r41, rfl, h⟩
        refine GL.val trivial rfl (OV.assign (v := sv r41) rfl) ?_
        refine GL.nil ?_
        exact GC.ret (fun _ _ hf hs => post_tmp1 rfl rfl hf hs ⟨r41, rfl, h⟩)

def sh_internal_stringslite_Cut (C : Ctx) (p_s : Str) (p_sep : Str) (K : Str → Str → Bool → Heap → Prop) (H : Heap) : Prop :=
  c_internal_stringslite_Index C p_s p_sep (fun r1 H2 =>
 ift (decide ((r1 : Int) ≥ 0))
 (slS p_s 0 r1 fun t4 =>
 slS p_s (w .i64 (r1 + (List.length p_sep : Int))) (List.length p_s : Int) fun t10 =>
 K t4 t10 true H2)
 (K p_s [] false H2)) H

theorem ad_internal_stringslite_Cut (C : Ctx) (p_s : Str) (p_sep : Str) (K : Str → Str → Bool → Heap → Prop) (H : Heap) (h : sh_internal_stringslite_Cut C p_s p_sep K H) : c_internal_stringslite_Cut C p_s p_sep K H := by
  refine Spec.enter Tryd.func98 rfl Tryd.ntmps98 rfl ?_
  refine GC.sub [(0, sv p_s), (1, sv p_sep)] ⟨rfl, rfl, trivial⟩ ?_
  refine GC.seq ?_
  refine GC.region ?_
  refine GL.val trivial rfl (OV.assign (v := sv []) rfl) ?_
  refine GL.val trivial rfl (OV.assign (v := sv []) rfl) ?_
  refine GL.val trivial rfl (OV.assign (v := .bool false) rfl) ?_
  refine GL.nil ?_
  refine GC.seq ?_
  refine GC.seq ?_
  refine GC.region ?_
  refine GL.val trivial rfl (OV.move (v := sv p_s) rfl) ?_
  refine GL.val trivial rfl (OV.move (v := sv p_sep) rfl) ?_
  refine GL.call h trivial rfl ok_internal_stringslite_Index (vs := [sv p_s, sv p_sep]) rfl ?_
  rintro _ H2 ⟨r1, rfl, h⟩
  refine GL.val trivial rfl (OV.assign (v := .int .i64 r1) rfl) ?_
  refine GL.nil ?_
  refine GC.seq ?_
  refine GC.region ?_
  refine GL.val trivial rfl (OV.move (v := .int .i64 r1) rfl) ?_
  refine GL.val trivial rfl (OV.ibin (v := .bool (decide ((r1 : Int) ≥ 0))) rfl rfl rfl) ?_
  refine GL.nil ?_
  refine GC.cond (b := decide ((r1 : Int) ≥ 0)) rfl (fun hc3 => ?_) (fun hc3 => ?_)
  · replace h := And.left h hc3
    refine GC.seq ?_
    refine GC.draw (by kernel_rfl) (by kernel_rfl) ?_
    refine GQ.val trivial rfl (OV.move (v := sv p_s) rfl) ?_
    refine GQ.val trivial rfl (OV.move (v := .int .i64 r1) rfl) ?_
    obtain ⟨h5, h6, h7, t4, h8, h⟩ := h
    refine GQ.val trivial rfl (OV.sliceStr (s := p_s) h5 h6 h7 h8 rfl rfl rfl rfl rfl rfl) ?_
    refine GQ.val trivial rfl (OV.move (v := sv p_s) rfl) ?_
    refine GQ.val trivial rfl (OV.move (v := .int .i64 r1) rfl) ?_
    refine GQ.val trivial rfl (OV.move (v := sv p_sep) rfl) ?_
    refine GQ.val trivial rfl (OV.lenStr (s := p_sep) rfl rfl) ?_
    refine GQ.val trivial rfl (OV.ibin (v := .int .i64 (w .i64 (r1 + (List.length p_sep : Int)))) rfl rfl rfl) ?_
    obtain ⟨h11, h12, h13, t10, h14, h⟩ := h
    refine GQ.val trivial rfl (OV.sliceStr (s := p_s) h11 h12 h13 h14 rfl rfl rfl rfl rfl rfl) ?_
    refine GQ.val trivial rfl (OV.assign (v := sv t4) rfl) ?_
    refine GQ.val trivial rfl (OV.assign (v := sv t10) rfl) ?_
    refine GQ.val trivial rfl (OV.assign (v := .bool true) rfl) ?_
    refine GQ.nil ?_
    refine GL.nil ?_
    exact GC.ret (fun _ _ hf hs => post_tmp3 rfl rfl rfl rfl hf hs ⟨t4, t10, true, rfl, h⟩)
  · replace h := And.right h hc3
    refine GC.skip ?_
    refine GC.seq ?_
    refine GC.region ?_
    refine GL.val trivial rfl (OV.move (v := sv p_s) rfl) ?_
    refine GL.val trivial rfl (OV.assign (v := sv p_s) rfl) ?_
    refine GL.val trivial rfl (OV.assign (v := sv []) rfl) ?_
    refine GL.val trivial rfl (OV.assign (v := .bool false) rfl) ?_
    refine GL.nil ?_
    exact GC.ret (fun _ _ hf hs => post_tmp3 rfl rfl rfl rfl hf hs ⟨p_s, [], false, rfl, h⟩)

def sh_internal_stringslite_CutPrefix (C : Ctx) (p_s : Str) (p_prefix : Str) (K : Str → Bool → Heap → Prop) (H : Heap) : Prop :=
  c_internal_stringslite_HasPrefix C p_s p_prefix (fun r1 H2 =>
 ift (!r1)
 (K p_s false H2)
 (slS p_s (List.length p_prefix : Int) (List.length p_s : Int) fun t4 =>
 K t4 true H2)) H

theorem ad_internal_stringslite_CutPrefix (C : Ctx) (p_s : Str) (p_prefix : Str) (K : Str → Bool → Heap → Prop) (H : Heap) (h : sh_internal_stringslite_CutPrefix C p_s p_prefix K H) : c_internal_stringslite_CutPrefix C p_s p_prefix K H := by
  refine Spec.enter Tryd.func99 rfl Tryd.ntmps99 rfl ?_
  refine GC.sub [(0, sv p_s), (1, sv p_prefix)] ⟨rfl, rfl, trivial⟩ ?_
  refine GC.seq ?_
  refine GC.region ?_
  refine GL.val trivial rfl (OV.assign (v := sv []) rfl) ?_
  refine GL.val trivial rfl (OV.assign (v := .bool false) rfl) ?_
  refine GL.nil ?_
  refine GC.seq ?_
  refine GC.seq ?_
  refine GC.region ?_
  refine GL.val trivial rfl (OV.move (v := sv p_s) rfl) ?_
  refine GL.val trivial rfl (OV.move (v := sv p_prefix) rfl) ?_
  refine GL.call h trivial rfl ok_internal_stringslite_HasPrefix (vs := [sv p_s, sv p_prefix]) rfl ?_
  rintro _ H2 ⟨r1, rfl, h⟩
  refine GL.val trivial rfl (OV.not rfl) ?_
  refine GL.nil ?_
  refine GC.cond (b := !r1) rfl (fun hc3 => ?_) (fun hc3 => ?_)
  · replace h := And.left h hc3
    refine GC.seq ?_
    refine GC.region ?_
    refine GL.val trivial rfl (OV.move (v := sv p_s) rfl) ?_
    refine GL.val trivial rfl (OV.assign (v := sv p_s) rfl) ?_
    refine GL.val trivial rfl (OV.assign (v := .bool false) rfl) ?_
    refine GL.nil ?_
    exact GC.ret (fun _ _ hf hs => post_tmp2 rfl rfl rfl hf hs ⟨p_s, false, rfl, h⟩)
  · replace h := And.right h hc3
    refine GC.skip ?_
    refine GC.seq ?_
    refine GC.region ?_
    refine GL.val trivial rfl (OV.move (v := sv p_s) rfl) ?_
    refine GL.val trivial rfl (OV.move (v := sv p_prefix) rfl) ?_
    refine GL.val trivial rfl (OV.lenStr (s := p_prefix) rfl rfl) ?_
    obtain ⟨h5, h6, h7, t4, h8, h⟩ := h
    refine GL.val trivial rfl (OV.sliceStr (s := p_s) h5 h6 h7 h8 rfl rfl rfl rfl rfl rfl) ?_
    refine GL.val trivial rfl (OV.assign (v := sv t4) rfl) ?_
    refine GL.val trivial rfl (OV.assign (v := .bool true) rfl) ?_
    refine GL.nil ?_
    exact GC.ret (fun _ _ hf hs => post_tmp2 rfl rfl rfl hf hs ⟨t4, true, rfl, h⟩)

def sh_ref02_letter (C : Ctx) (p_c : Int) (K : Bool → Heap → Prop) (H : Heap) : Prop :=
  K ((decide ((p_c : Int) ≥ 97)) && (decide ((p_c : Int) ≤ 122))) H

theorem ad_ref02_letter (C : Ctx) (p_c : Int) (K : Bool → Heap → Prop) (H : Heap) (h : sh_ref02_letter C p_c K H) : c_ref02_letter C p_c K H := by
  refine Spec.enter Tryd.func100 rfl Tryd.ntmps100 rfl ?_
  refine GC.sub [(0, .int .u8 p_c)] ⟨rfl, trivial⟩ ?_
  refine GC.seq ?_
  refine GC.region ?_
  refine GL.val trivial rfl (OV.assign (v := .bool false) rfl) ?_
  refine GL.nil ?_
  refine GC.seq ?_
  refine GC.region ?_
  refine GL.val trivial rfl (OV.move (v := .int .u8 p_c) rfl) ?_
  refine GL.val trivial rfl (OV.ibin (v := .bool (decide ((p_c : Int) ≥ 97))) rfl rfl rfl) ?_
  refine GL.val trivial rfl (OV.move (v := .bool (decide ((p_c : Int) ≥ 97))) rfl) ?_
  refine GL.cut0 3 [(8, .bool ((decide ((p_c : Int) ≥ 97)) && (decide ((p_c : Int) ≤ 122))))] ?_ ?_
  · rcases Bool.eq_false_or_eq_true (decide ((p_c : Int) ≥ 97)) with hc1 | hc1
    · skip
      refine GL.val ⟨_, _, rfl, rfl, hc1⟩ rfl (OV.move (v := .int .u8 p_c) rfl) ?_
      refine GL.val ⟨_, _, rfl, rfl, hc1⟩ rfl (OV.ibin (v := .bool (decide ((p_c : Int) ≤ 122))) rfl rfl rfl) ?_
      refine GL.val trivial rfl (OV.pickT (b := decide ((p_c : Int) ≥ 97)) (v := .bool (decide ((p_c : Int) ≤ 122))) rfl hc1 rfl) ?_
      exact GL.jump0 (fun _ _ h => h) () rfl ⟨(by rw [hc1]; rfl), trivial⟩
    · skip
      refine GL.skip ⟨_, rfl, .inl ⟨_, rfl, hc1⟩⟩ rfl ?_
      refine GL.skip ⟨_, rfl, .inl ⟨_, rfl, hc1⟩⟩ rfl ?_
      refine GL.val trivial rfl (OV.pickF (b := decide ((p_c : Int) ≥ 97)) (v := .bool false) rfl hc1 rfl) ?_
      exact GL.jump0 (fun _ _ h => h) () rfl ⟨(by rw [hc1]; rfl), trivial⟩
  refine GL.val trivial rfl (OV.assign (v := .bool ((decide ((p_c : Int) ≥ 97)) && (decide ((p_c : Int) ≤ 122)))) rfl) ?_
  refine GL.nil ?_
  exact GC.ret (fun _ _ hf hs => post_tmp1 rfl rfl hf hs ⟨((decide ((p_c : Int) ≥ 97)) && (decide ((p_c : Int) ≤ 122))), rfl, h⟩)

def sh_internal_stringslite_TrimPrefix (C : Ctx) (p_s : Str) (p_prefix : Str) (K : Str → Heap → Prop) (H : Heap) : Prop :=
  c_internal_stringslite_HasPrefix C p_s p_prefix (fun r1 H2 =>
 ift r1
 (slS p_s (List.length p_prefix : Int) (List.length p_s : Int) fun t4 =>
 K t4 H2)
 (K p_s H2)) H

theorem ad_internal_stringslite_TrimPrefix (C : Ctx) (p_s : Str) (p_prefix : Str) (K : Str → Heap → Prop) (H : Heap) (h : sh_internal_stringslite_TrimPrefix C p_s p_prefix K H) : c_internal_stringslite_TrimPrefix C p_s p_prefix K H := by
  refine Spec.enter Tryd.func101 rfl Tryd.ntmps101 rfl ?_
  refine GC.sub [(0, sv p_s), (1, sv p_prefix)] ⟨rfl, rfl, trivial⟩ ?_
  refine GC.seq ?_
  refine GC.region ?_
  refine GL.val trivial rfl (OV.assign (v := sv []) rfl) ?_
  refine GL.nil ?_
  refine GC.seq ?_
  refine GC.seq ?_
  refine GC.region ?_
  refine GL.val trivial rfl (OV.move (v := sv p_s) rfl) ?_
  refine GL.val trivial rfl (OV.move (v := sv p_prefix) rfl) ?_
  refine GL.call h trivial rfl ok_internal_stringslite_HasPrefix (vs := [sv p_s, sv p_prefix]) rfl ?_
  rintro _ H2 ⟨r1, rfl, h⟩
  refine GL.nil ?_
  refine GC.cond (b := r1) rfl (fun hc3 => ?_) (fun hc3 => ?_)
  · replace h := And.left h hc3
    refine GC.seq ?_
    refine GC.region ?_
    refine GL.val trivial rfl (OV.move (v := sv p_s) rfl) ?_
    refine GL.val trivial rfl (OV.move (v := sv p_prefix) rfl) ?_
    refine GL.val trivial rfl (OV.lenStr (s := p_prefix) rfl rfl) ?_
    obtain ⟨h5, h6, h7, t4, h8, h⟩ := h
    refine GL.val trivial rfl (OV.sliceStr (s := p_s) h5 h6 h7 h8 rfl rfl rfl rfl rfl rfl) ?_
    refine GL.val trivial rfl (OV.assign (v := sv t4) rfl) ?_
    refine GL.nil ?_
    exact GC.ret (fun _ _ hf hs => post_tmp1 rfl rfl hf hs ⟨t4, rfl, h⟩)
  · replace h := And.right h hc3
    refine GC.skip ?_
    refine GC.seq ?_
    refine GC.region ?_
    refine GL.val trivial rfl (OV.move (v := sv p_s) rfl) ?_
    refine GL.val trivial rfl (OV.assign (v := sv p_s) rfl) ?_
    refine GL.nil ?_
    exact GC.ret (fun _ _ hf hs => post_tmp1 rfl rfl hf hs ⟨p_s, rfl, h⟩)

def sh_strings_makeASCIISet (C : Ctx) (p_chars : Str) (K : List Value → Bool → Heap → Prop) (H : Heap) : Prop :=
  nw ((List.replicate 256 (.bool false : Value))) (fun b1 H2 =>
 lp (α := Int) 0 H2 (fun x3 J4 H5 =>
 ift (decide ((x3 : Int) < (List.length p_chars : Int)))
 (ixs p_chars x3 fun c7 =>
 ift (decide (((c7.toNat : Int) : Int) ≥ 128))
 (ldC H5 256 (b1, 0) fun x11 =>
 stC 256 (b1, 0) x11 (fun H14 =>
 ldC H14 256 (b1, 0) fun x17 =>
 K x17 false H14) H5)
 (ixr (b1, 0) 256 (c7.toNat : Int) <|
 st ((b1, 0).1, (b1, 0).2 + ((c7.toNat : Int) : Int).toNat * 1) (.bool true) (fun H22 =>
 J4 (w .i64 (x3 + 1)) H22) H5))
 (ldC H5 256 (b1, 0) fun x23 =>
 stC 256 (b1, 0) x23 (fun H26 =>
 ldC H26 256 (b1, 0) fun x29 =>
 K x29 true H26) H5))) H

theorem ad_strings_makeASCIISet (C : Ctx) (p_chars : Str) (K : List Value → Bool → Heap → Prop) (H : Heap) (h : sh_strings_makeASCIISet C p_chars K H) : c_strings_makeASCIISet C p_chars K H := by
  refine Spec.enter Tryd.func104 rfl Tryd.ntmps104 rfl ?_
  refine GC.sub [(0, sv p_chars)] ⟨rfl, trivial⟩ ?_
  refine GC.seq ?_
  refine GC.region ?_
  refine GL.alloc (cs := (List.replicate 256 (.bool false : Value))) h trivial rfl rfl rfl ?_
  intro b1 H2 h
  refine GL.val trivial rfl (OV.assign (v := .bool false) rfl) ?_
  refine GL.nil ?_
  refine GC.seq ?_
  refine GC.seq ?_
  refine GC.region ?_
  refine GL.val trivial rfl (OV.assign (v := .int .i64 0) rfl) ?_
  refine GL.nil ?_
  refine GC.block ?_
  refine GC.loop (α := Int) h (fun x3 => [(4, .int .i64 x3), (0, sv p_chars), (2, pv (some (b1, 0)))]) ⟨rfl, rfl, rfl, trivial⟩ ?_
  intro x3 H5 J4 h
  refine GC.seq ?_
  refine GC.seq ?_
  refine GC.region ?_
  refine GL.val trivial rfl (OV.move (v := .int .i64 x3) rfl) ?_
  refine GL.val trivial rfl (OV.move (v := sv p_chars) rfl) ?_
  refine GL.val trivial rfl (OV.lenStr (s := p_chars) rfl rfl) ?_
  refine GL.val trivial rfl (OV.ibin (v := .bool (decide ((x3 : Int) < (List.length p_chars : Int)))) rfl rfl rfl) ?_
  refine GL.nil ?_
  refine GC.cond (b := decide ((x3 : Int) < (List.length p_chars : Int))) rfl (fun hc6 => ?_) (fun hc6 => ?_)
  · replace h := And.left h hc6
    refine GC.skip ?_
    refine GC.seq ?_
    refine GC.block ?_
    refine GC.seq ?_
    refine GC.region ?_
    refine GL.val trivial rfl (OV.move (v := sv p_chars) rfl) ?_
    refine GL.val trivial rfl (OV.move (v := .int .i64 x3) rfl) ?_
    obtain ⟨c7, ha8, hb9, h⟩ := h
    refine GL.val trivial rfl (OV.indexStr (s := p_chars) rfl rfl rfl ha8 hb9) ?_
    refine GL.val trivial rfl (OV.assign (v := .int .u8 (c7.toNat : Int)) rfl) ?_
    refine GL.nil ?_
    refine GC.seq ?_
    refine GC.seq ?_
    refine GC.region ?_
    refine GL.val trivial rfl (OV.move (v := .int .u8 (c7.toNat : Int)) rfl) ?_
    refine GL.val trivial rfl (OV.ibin (v := .bool (decide (((c7.toNat : Int) : Int) ≥ 128))) rfl rfl rfl) ?_
    refine GL.nil ?_
    refine GC.cond (b := decide (((c7.toNat : Int) : Int) ≥ 128)) rfl (fun hc10 => ?_) (fun hc10 => ?_)
    · replace h := And.left h hc10
      refine GC.seq ?_
      refine GC.region ?_
      obtain ⟨x11, hl13, hr12, h⟩ := h
      refine GL.val trivial rfl (OV.loadT (p := (b1, 0)) (cs := x11) rfl rfl (by rw [hl13]; rfl) hr12) ?_
      obtain ⟨hl15, h116, h⟩ := h
      refine GL.storeT (p := (b1, 0)) (vs := x11) h trivial rfl rfl h116 (by rw [hl15]; rfl) ?_
      intro H14 h
      refine GL.val trivial rfl (OV.assign (v := .bool false) rfl) ?_
      refine GL.nil ?_
      obtain ⟨x17, hl19, hr18, h⟩ := h
      exact GC.ret (fun _ _ hf hs => post_res2 rfl (RV.cellT (p := (b1, 0)) (cs := x17) rfl rfl (by rw [hl19]; rfl) hr18) (RV.tmp rfl) hf hs ⟨x17, false, rfl, h⟩)
    · replace h := And.right h hc10
      refine GC.skip ?_
      refine GC.region ?_
      refine GL.val trivial rfl (OV.move (v := .int .u8 (c7.toNat : Int)) rfl) ?_
      obtain ⟨ha20, hb21, h⟩ := h
      refine GL.val trivial rfl (OV.indexAddrA (p := (b1, 0)) rfl rfl rfl rfl ha20 hb21) ?_
      refine GL.store (p := ((b1, 0).1, (b1, 0).2 + ((c7.toNat : Int) : Int).toNat * 1)) (v := .bool true) h trivial rfl rfl rfl rfl ?_
      intro H22 h
      refine GL.nil_to (fun _ _ h => h) ?_
      refine GC.region ?_
      refine GL.val trivial rfl (OV.move (v := .int .i64 x3) rfl) ?_
      refine GL.val trivial rfl (OV.ibin (v := .int .i64 (w .i64 (x3 + 1))) rfl rfl rfl) ?_
      refine GL.val trivial rfl (OV.assign (v := .int .i64 (w .i64 (x3 + 1))) rfl) ?_
      exact GL.jump (fun _ _ h => h) (w .i64 (x3 + 1)) h ⟨rfl, rfl, rfl, trivial⟩
  · replace h := And.right h hc6
    refine GC.exit_to (fun _ _ h => h) ?_
    refine GC.seq ?_
    refine GC.region ?_
    obtain ⟨x23, hl25, hr24, h⟩ := h
    refine GL.val trivial rfl (OV.loadT (p := (b1, 0)) (cs := x23) rfl rfl (by rw [hl25]; rfl) hr24) ?_
    obtain ⟨hl27, h128, h⟩ := h
    refine GL.storeT (p := (b1, 0)) (vs := x23) h trivial rfl rfl h128 (by rw [hl27]; rfl) ?_
    intro H26 h
    refine GL.val trivial rfl (OV.assign (v := .bool true) rfl) ?_
    refine GL.nil ?_
    obtain ⟨x29, hl31, hr30, h⟩ := h
    exact GC.ret (fun _ _ hf hs => post_res2 rfl (RV.cellT (p := (b1, 0)) (cs := x29) rfl rfl (by rw [hl31]; rfl) hr30) (RV.tmp rfl) hf hs ⟨x29, true, rfl, h⟩)

def sh_strings_trimLeftASCII (C : Ctx) (p_s : Str) (p_as : Option (Nat × Nat)) (K : Str → Heap → Prop) (H : Heap) : Prop :=
  jn (α := Str) (fun x2 H3 =>
 K x2 H3)
 (fun J1 => lp (α := Str) p_s H (fun x5 J6 H7 =>
 ift (decide (((List.length x5 : Int) : Int) > 0))
 (ixs x5 0 fun c9 =>
 c_strings_asciiSet_contains C p_as (c9.toNat : Int) (fun r12 H13 =>
 ift (!r12)
 (J1 x5 H13)
 (slS x5 1 (List.length x5 : Int) fun t15 =>
 J6 t15 H13)) H7)
 (J1 x5 H7)))

theorem ad_strings_trimLeftASCII (C : Ctx) (p_s : Str) (p_as : Option (Nat × Nat)) (K : Str → Heap → Prop) (H : Heap) (h : sh_strings_trimLeftASCII C p_s p_as K H) : c_strings_trimLeftASCII C p_s p_as K H := by
  refine Spec.enter Tryd.func105 rfl Tryd.ntmps105 rfl ?_
  refine GC.sub [(0, sv p_s), (1, pv p_as)] ⟨rfl, rfl, trivial⟩ ?_
  refine GC.seq ?_
  refine GC.region ?_
  refine GL.val trivial rfl (OV.assign (v := sv []) rfl) ?_
  refine GL.nil ?_
  obtain ⟨J1, h, hR4⟩ := h
  refine GC.join (α := Str) J1 (fun x2 => [(0, sv x2)]) ?_ ?_
  · skip
    refine GC.block ?_
    refine GC.loop (α := Str) h (fun x5 => [(0, sv x5), (1, pv p_as)]) ⟨rfl, rfl, trivial⟩ ?_
    intro x5 H7 J6 h
    refine GC.seq ?_
    refine GC.seq ?_
    refine GC.region ?_
    refine GL.val trivial rfl (OV.move (v := sv x5) rfl) ?_
    refine GL.val trivial rfl (OV.lenStr (s := x5) rfl rfl) ?_
    refine GL.val trivial rfl (OV.ibin (v := .bool (decide (((List.length x5 : Int) : Int) > 0))) rfl rfl rfl) ?_
    refine GL.nil ?_
    refine GC.cond (b := decide (((List.length x5 : Int) : Int) > 0)) rfl (fun hc8 => ?_) (fun hc8 => ?_)
    · replace h := And.left h hc8
      refine GC.skip ?_
      refine GC.block ?_
      refine GC.seq ?_
      refine GC.seq ?_
      refine GC.region ?_
      refine GL.val trivial rfl (OV.move (v := pv p_as) rfl) ?_
      refine GL.val trivial rfl (OV.move (v := sv x5) rfl) ?_
      obtain ⟨c9, ha10, hb11, h⟩ := h
      refine GL.val trivial rfl (OV.indexStr (s := x5) rfl rfl rfl ha10 hb11) ?_
      refine GL.call h trivial rfl ok_strings_asciiSet_contains (vs := [pv p_as, .int .u8 (c9.toNat : Int)]) rfl ?_
      rintro _ H13 ⟨r12, rfl, h⟩
      refine GL.val trivial rfl (OV.not rfl) ?_
      refine GL.nil ?_
      refine GC.cond (b := !r12) rfl (fun hc14 => ?_) (fun hc14 => ?_)
      · replace h := And.left h hc14
        exact GC.exit_jump (fun _ _ h => h) x5 h ⟨rfl, trivial⟩
      · replace h := And.right h hc14
        refine GC.skip ?_
        refine GC.region ?_
        refine GL.val trivial rfl (OV.move (v := sv x5) rfl) ?_
        obtain ⟨h16, h17, h18, t15, h19, h⟩ := h
        refine GL.val trivial rfl (OV.sliceStr (s := x5) h16 h17 h18 h19 rfl rfl rfl rfl rfl rfl) ?_
        refine GL.val trivial rfl (OV.assign (v := sv t15) rfl) ?_
        exact GL.jump (fun _ _ h => h) t15 h ⟨rfl, rfl, trivial⟩
    · replace h := And.right h hc8
      exact GC.exit_jump (fun _ _ h => h) x5 h ⟨rfl, trivial⟩
  · intro x2 H3 h
    replace h := hR4 x2 H3 h
    refine GC.seq ?_
    refine GC.region ?_
    refine GL.val trivial rfl (OV.move (v := sv x2) rfl) ?_
    refine GL.val trivial rfl (OV.assign (v := sv x2) rfl) ?_
    refine GL.nil ?_
    exact GC.ret (fun _ _ hf hs => post_tmp1 rfl rfl hf hs ⟨x2, rfl, h⟩)

def sh_strings_trimRightASCII (C : Ctx) (p_s : Str) (p_as : Option (Nat × Nat)) (K : Str → Heap → Prop) (H : Heap) : Prop :=
  jn (α := Str) (fun x2 H3 =>
 K x2 H3)
 (fun J1 => lp (α := Str) p_s H (fun x5 J6 H7 =>
 ift (decide (((List.length x5 : Int) : Int) > 0))
 (ixs x5 (w .i64 ((List.length x5 : Int) - 1)) fun c9 =>
 c_strings_asciiSet_contains C p_as (c9.toNat : Int) (fun r12 H13 =>
 ift (!r12)
 (J1 x5 H13)
 (slS x5 0 (w .i64 ((List.length x5 : Int) - 1)) fun t15 =>
 J6 t15 H13)) H7)
 (J1 x5 H7)))

theorem ad_strings_trimRightASCII (C : Ctx) (p_s : Str) (p_as : Option (Nat × Nat)) (K : Str → Heap → Prop) (H : Heap) (h : sh_strings_trimRightASCII C p_s p_as K H) : c_strings_trimRightASCII C p_s p_as K H := by
  refine Spec.enter Tryd.func106 rfl Tryd.ntmps106 rfl ?_
  refine GC.sub [(0, sv p_s), (1, pv p_as)] ⟨rfl, rfl, trivial⟩ ?_
  refine GC.seq ?_
  refine GC.region ?_
  refine GL.val trivial rfl (OV.assign (v := sv []) rfl) ?_
  refine GL.nil ?_
  obtain ⟨J1, h, hR4⟩ := h
  refine GC.join (α := Str) J1 (fun x2 => [(0, sv x2)]) ?_ ?_
  · skip
    refine GC.block ?_
    refine GC.loop (α := Str) h (fun x5 => [(0, sv x5), (1, pv p_as)]) ⟨rfl, rfl, trivial⟩ ?_
    intro x5 H7 J6 h
    refine GC.seq ?_
    refine GC.seq ?_
    refine GC.region ?_
    refine GL.val trivial rfl (OV.move (v := sv x5) rfl) ?_
    refine GL.val trivial rfl (OV.lenStr (s := x5) rfl rfl) ?_
    refine GL.val trivial rfl (OV.ibin (v := .bool (decide (((List.length x5 : Int) : Int) > 0))) rfl rfl rfl) ?_
    refine GL.nil ?_
    refine GC.cond (b := decide (((List.length x5 : Int) : Int) > 0)) rfl (fun hc8 => ?_) (fun hc8 => ?_)
    · replace h := And.left h hc8
      refine GC.skip ?_
      refine GC.block ?_
      refine GC.seq ?_
      refine GC.seq ?_
      refine GC.region ?_
      refine GL.val trivial rfl (OV.move (v := pv p_as) rfl) ?_
      refine GL.val trivial rfl (OV.move (v := sv x5) rfl) ?_
      refine GL.val trivial rfl (OV.move (v := sv x5) rfl) ?_
      refine GL.val trivial rfl (OV.lenStr (s := x5) rfl rfl) ?_
      refine GL.val trivial rfl (OV.ibin (v := .int .i64 (w .i64 ((List.length x5 : Int) - 1))) rfl rfl rfl) ?_
      obtain ⟨c9, ha10, hb11, h⟩ := h
      refine GL.val trivial rfl (OV.indexStr (s := x5) rfl rfl rfl ha10 hb11) ?_
      refine GL.call h trivial rfl ok_strings_asciiSet_contains (vs := [pv p_as, .int .u8 (c9.toNat : Int)]) rfl ?_
      rintro _ H13 ⟨r12, rfl, h⟩
      refine GL.val trivial rfl (OV.not rfl) ?_
      refine GL.nil ?_
      refine GC.cond (b := !r12) rfl (fun hc14 => ?_) (fun hc14 => ?_)
      · replace h := And.left h hc14
        exact GC.exit_jump (fun _ _ h => h) x5 h ⟨rfl, trivial⟩
      · replace h := And.right h hc14
        refine GC.skip ?_
        refine GC.region ?_
        refine GL.val trivial rfl (OV.move (v := sv x5) rfl) ?_
        refine GL.val trivial rfl (OV.move (v := sv x5) rfl) ?_
        refine GL.val trivial rfl (OV.lenStr (s := x5) rfl rfl) ?_
        refine GL.val trivial rfl (OV.ibin (v := .int .i64 (w .i64 ((List.length x5 : Int) - 1))) rfl rfl rfl) ?_
        obtain ⟨h16, h17, h18, t15, h19, h⟩ := h
        refine GL.val trivial rfl (OV.sliceStr (s := x5) h16 h17 h18 h19 rfl rfl rfl rfl rfl rfl) ?_
        refine GL.val trivial rfl (OV.assign (v := sv t15) rfl) ?_
        exact GL.jump (fun _ _ h => h) t15 h ⟨rfl, rfl, trivial⟩
    · replace h := And.right h hc8
      exact GC.exit_jump (fun _ _ h => h) x5 h ⟨rfl, trivial⟩
  · intro x2 H3 h
    replace h := hR4 x2 H3 h
    refine GC.seq ?_
    refine GC.region ?_
    refine GL.val trivial rfl (OV.move (v := sv x2) rfl) ?_
    refine GL.val trivial rfl (OV.assign (v := sv x2) rfl) ?_
    refine GL.nil ?_
    exact GC.ret (fun _ _ hf hs => post_tmp1 rfl rfl hf hs ⟨x2, rfl, h⟩)

end Sx
