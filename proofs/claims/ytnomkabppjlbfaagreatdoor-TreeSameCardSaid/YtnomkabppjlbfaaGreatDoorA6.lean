/-
  Texts of this family, one behind the other: Sh, CAwake, ValQ, ValU, TreeV, TreeE, TreeS, ValS5, TreeP.
-/
import Derived.Test.YtnomkabppjlbfaaGreatDoorA5
noncomputable section
set_option linter.unusedVariables false
set_option maxRecDepth 100000
namespace Sx
open Go Go.Proofs
def sh_slices_EqualFunc_api_Expr_api_Expr_api_Expr_api_Expr (C : Ctx) (p_s1 : Sl) (p_s2 : Sl) (p_eq : Value) (K : Bool → Heap → Prop) (H : Heap) : Prop :=
  ift (((Sl.len p_s1 : Int) : Int) != (Sl.len p_s2 : Int))
 (K false H)
 (lp (α := Int) 0 H (fun x2 J3 H4 =>
 ift (decide ((x2 : Int) < (Sl.len p_s1 : Int)))
 (ixa p_s1 x2 fun p6 =>
 ldT H4 T_api_Expr.c (p6.1, p6.2 + (x2 : Int).toNat * 9) fun x11 =>
 nw (T_api_Expr.c T_api_Expr.zero) (fun b13 H14 =>
 stT (b13, 0) (T_api_Expr.c x11) (fun H15 =>
 ixa p_s2 x2 fun p16 =>
 ldT H15 T_api_Expr.c (p16.1, p16.2 + (x2 : Int).toNat * 9) fun x21 =>
 nw (T_api_Expr.c T_api_Expr.zero) (fun b23 H24 =>
 stT (b23, 0) (T_api_Expr.c x21) (fun H25 =>
 ldT H25 T_api_Expr.c (b13, 0) fun x26 =>
 ldT H25 T_api_Expr.c (b23, 0) fun x28 =>
 callU Tryz.prog C p_eq [.agg (T_api_Expr.c x26).toArray, .agg (T_api_Expr.c x28).toArray] H25 (fun v H31 => ∃ (r30 : Bool), v = .bool r30 ∧
 ift (!r30)
 (K false H31)
 (J3 (w .i64 (x2 + 1)) H31))) H24) H15) H14) H4)
 (K true H4)))

theorem ad_slices_EqualFunc_api_Expr_api_Expr_api_Expr_api_Expr (C : Ctx) (p_s1 : Sl) (p_s2 : Sl) (p_eq : Value) (K : Bool → Heap → Prop) (H : Heap) (h : sh_slices_EqualFunc_api_Expr_api_Expr_api_Expr_api_Expr C p_s1 p_s2 p_eq K H) : c_slices_EqualFunc_api_Expr_api_Expr_api_Expr_api_Expr C p_s1 p_s2 p_eq K H := by
  refine Spec.enter Tryz.func81 rfl Tryz.ntmps81 rfl ?_
  refine GC.sub [(0, slv p_s1), (1, slv p_s2), (2, p_eq)] ⟨rfl, rfl, rfl, trivial⟩ ?_
  refine GC.seq ?_
  refine GC.region ?_
  refine GL.val trivial rfl (OV.assign (v := .bool false) rfl) ?_
  refine GL.nil ?_
  refine GC.seq ?_
  refine GC.seq ?_
  refine GC.region ?_
  refine GL.val trivial rfl (OV.move (v := slv p_s1) rfl) ?_
  refine GL.val trivial rfl (OV.lenSl (s := p_s1) rfl rfl) ?_
  refine GL.val trivial rfl (OV.move (v := slv p_s2) rfl) ?_
  refine GL.val trivial rfl (OV.lenSl (s := p_s2) rfl rfl) ?_
  refine GL.val trivial rfl (OV.ibin (v := .bool (((Sl.len p_s1 : Int) : Int) != (Sl.len p_s2 : Int))) rfl rfl rfl) ?_
  refine GL.nil ?_
  refine GC.cond (b := ((Sl.len p_s1 : Int) : Int) != (Sl.len p_s2 : Int)) rfl (fun hc1 => ?_) (fun hc1 => ?_)
  · replace h := And.left h hc1
    refine GC.seq ?_
    refine GC.region ?_
    refine GL.val trivial rfl (OV.assign (v := .bool false) rfl) ?_
    refine GL.nil ?_
    exact GC.ret (fun _ _ hf hs => post_tmp1 rfl rfl hf hs ⟨false, rfl, h⟩)
  · replace h := And.right h hc1
    refine GC.skip ?_
    refine GC.seq ?_
    refine GC.seq ?_
    refine GC.region ?_
    refine GL.val trivial rfl (OV.move (v := slv p_s1) rfl) ?_
    refine GL.val trivial rfl (OV.lenSl (s := p_s1) rfl rfl) ?_
    refine GL.val trivial rfl (OV.move (v := .int .i64 0) rfl) ?_
    refine GL.nil ?_
    refine GC.block ?_
    refine GC.loop (α := Int) h (fun x2 => [(17, .int .i64 x2), (1, slv p_s2), (2, p_eq), (15, slv p_s1), (16, .int .i64 (Sl.len p_s1 : Int))]) ⟨rfl, rfl, rfl, rfl, rfl, trivial⟩ ?_
    intro x2 H4 J3 h
    refine GC.seq ?_
    refine GC.region ?_
    refine GL.val trivial rfl (OV.ibin (v := .bool (decide ((x2 : Int) < (Sl.len p_s1 : Int)))) rfl rfl rfl) ?_
    refine GL.nil ?_
    refine GC.seq ?_
    refine GC.cond (b := decide ((x2 : Int) < (Sl.len p_s1 : Int))) rfl (fun hc5 => ?_) (fun hc5 => ?_)
    · replace h := And.left h hc5
      refine GC.skip ?_
      refine GC.seq ?_
      refine GC.block ?_
      refine GC.seq ?_
      refine GC.region ?_
      refine GL.val trivial rfl (OV.move (v := .int .i64 x2) rfl) ?_
      obtain ⟨p6, ha7, hb8, hc9, hd10, h⟩ := h
      refine GL.val trivial rfl (OV.indexAddr (s := p_s1) rfl rfl rfl rfl ha7 hb8 hc9 hd10) ?_
      obtain ⟨x11, hr12, h⟩ := h
      refine GL.val trivial rfl (OV.loadT (p := (p6.1, p6.2 + (x2 : Int).toNat * 9)) (cs := T_api_Expr.c x11) rfl rfl rfl hr12) ?_
      refine GL.alloc (cs := T_api_Expr.c T_api_Expr.zero) h trivial rfl rfl rfl ?_
      intro b13 H14 h
      refine GL.val trivial rfl (OV.assign (v := .int .i64 x2) rfl) ?_
      refine GL.storeT (p := (b13, 0)) (vs := T_api_Expr.c x11) h trivial rfl rfl rfl rfl ?_
      intro H15 h
      refine GL.nil ?_
      refine GC.seq ?_
      refine GC.region ?_
      refine GL.val trivial rfl (OV.move (v := slv p_s2) rfl) ?_
      refine GL.val trivial rfl (OV.move (v := .int .i64 x2) rfl) ?_
      obtain ⟨p16, ha17, hb18, hc19, hd20, h⟩ := h
      refine GL.val trivial rfl (OV.indexAddr (s := p_s2) rfl rfl rfl rfl ha17 hb18 hc19 hd20) ?_
      obtain ⟨x21, hr22, h⟩ := h
      refine GL.val trivial rfl (OV.loadT (p := (p16.1, p16.2 + (x2 : Int).toNat * 9)) (cs := T_api_Expr.c x21) rfl rfl rfl hr22) ?_
      refine GL.alloc (cs := T_api_Expr.c T_api_Expr.zero) h trivial rfl rfl rfl ?_
      intro b23 H24 h
      refine GL.storeT (p := (b23, 0)) (vs := T_api_Expr.c x21) h trivial rfl rfl rfl rfl ?_
      intro H25 h
      refine GL.nil ?_
      refine GC.seq ?_
      refine GC.region ?_
      refine GL.val trivial rfl (OV.move (v := p_eq) rfl) ?_
      obtain ⟨x26, hr27, h⟩ := h
      refine GL.val trivial rfl (OV.loadT (p := (b13, 0)) (cs := T_api_Expr.c x26) rfl rfl rfl hr27) ?_
      obtain ⟨x28, hr29, h⟩ := h
      refine GL.val trivial rfl (OV.loadT (p := (b23, 0)) (cs := T_api_Expr.c x28) rfl rfl rfl hr29) ?_
      refine GL.callU (xv := p_eq) (vs := [.agg (T_api_Expr.c x26).toArray, .agg (T_api_Expr.c x28).toArray]) h trivial rfl rfl rfl ?_
      rintro _ H31 ⟨r30, rfl, h⟩
      refine GL.val trivial rfl (OV.not rfl) ?_
      refine GL.nil ?_
      refine GC.cond (b := !r30) rfl (fun hc32 => ?_) (fun hc32 => ?_)
      · replace h := And.left h hc32
        refine GC.seq ?_
        refine GC.region ?_
        refine GL.val trivial rfl (OV.assign (v := .bool false) rfl) ?_
        refine GL.nil ?_
        exact GC.ret (fun _ _ hf hs => post_tmp1 rfl rfl hf hs ⟨false, rfl, h⟩)
      · replace h := And.right h hc32
        refine GC.skip_to (fun _ _ h => h) ?_
        refine GC.region ?_
        refine GL.val trivial rfl (OV.ibin (v := .int .i64 (w .i64 (x2 + 1))) rfl rfl rfl) ?_
        refine GL.val trivial rfl (OV.move (v := .int .i64 (w .i64 (x2 + 1))) rfl) ?_
        exact GL.jump (fun _ _ h => h) (w .i64 (x2 + 1)) h ⟨rfl, rfl, rfl, rfl, rfl, trivial⟩
    · replace h := And.right h hc5
      refine GC.exit_to (fun _ _ h => h) ?_
      refine GC.seq ?_
      refine GC.region ?_
      refine GL.val trivial rfl (OV.assign (v := .bool true) rfl) ?_
      refine GL.nil ?_
      exact GC.ret (fun _ _ hf hs => post_tmp1 rfl rfl hf hs ⟨true, rfl, h⟩)

def sh_tree_sameExpr (C : Ctx) (p_a : T_api_Expr) (p_b : T_api_Expr) (K : Bool → Heap → Prop) (H : Heap) : Prop :=
  nw (T_api_Expr.c p_a) (fun b1 H2 =>
 nw (T_api_Expr.c p_b) (fun b3 H4 =>
 ldI H4 .u8 ((b1, 0).1, (b1, 0).2 + 0) fun x5 =>
 ldI H4 .u8 ((b3, 0).1, (b3, 0).2 + 0) fun x7 =>
 jn (α := Bool) (fun b9 H17 =>
 jn (α := Bool) (fun b18 H28 =>
 jn (α := Bool) (fun b29 H39 =>
 K b29 H39)
 (fun J30 => ift b18
 (ldL H28 ((b1, 0).1, (b1, 0).2 + 8) fun x33 =>
 ldL H28 ((b3, 0).1, (b3, 0).2 + 8) fun x35 =>
 c_slices_EqualFunc_api_Expr_api_Expr_api_Expr_api_Expr C x33 x35 (.func (.func 82) (List.toArray []) (List.toArray []) : Value) (fun r37 H38 =>
 J30 r37 H38) H28)
 (J30 false H28)))
 (fun J19 => ift b9
 (ldT H17 T_api_Value.c ((b1, 0).1, (b1, 0).2 + 4) fun x22 =>
 ldT H17 T_api_Value.c ((b3, 0).1, (b3, 0).2 + 4) fun x24 =>
 c_tree_sameValue C x22 x24 (fun r26 H27 =>
 J19 r26 H27) H17)
 (J19 false H17)))
 (fun J10 => ift ((x5 : Int) == x7)
 (ldS H4 ((b1, 0).1, (b1, 0).2 + 3) fun x13 =>
 ldS H4 ((b3, 0).1, (b3, 0).2 + 3) fun x15 =>
 J10 (x13 == x15) H4)
 (J10 false H4))) H2) H

theorem ad_tree_sameExpr (C : Ctx) (p_a : T_api_Expr) (p_b : T_api_Expr) (K : Bool → Heap → Prop) (H : Heap) (h : sh_tree_sameExpr C p_a p_b K H) : c_tree_sameExpr C p_a p_b K H := by
  refine Spec.enter Tryz.func82 rfl Tryz.ntmps82 rfl ?_
  refine GC.sub [(0, .agg (T_api_Expr.c p_a).toArray), (1, .agg (T_api_Expr.c p_b).toArray)] ⟨rfl, rfl, trivial⟩ ?_
  refine GC.seq ?_
  refine GC.region ?_
  refine GL.box (v := .agg (T_api_Expr.c p_a).toArray) (cs := T_api_Expr.c p_a) h trivial rfl rfl rfl ?_
  intro b1 H2 h
  refine GL.box (v := .agg (T_api_Expr.c p_b).toArray) (cs := T_api_Expr.c p_b) h trivial rfl rfl rfl ?_
  intro b3 H4 h
  refine GL.val trivial rfl (OV.assign (v := .bool false) rfl) ?_
  refine GL.nil ?_
  refine GC.seq ?_
  refine GC.region ?_
  refine GL.val trivial rfl (OV.fieldAddr (p := (b1, 0)) rfl rfl) ?_
  obtain ⟨x5, hr6, h⟩ := h
  refine GL.val trivial rfl (OV.load (p := ((b1, 0).1, (b1, 0).2 + 0)) rfl rfl hr6) ?_
  refine GL.val trivial rfl (OV.fieldAddr (p := (b3, 0)) rfl rfl) ?_
  obtain ⟨x7, hr8, h⟩ := h
  refine GL.val trivial rfl (OV.load (p := ((b3, 0).1, (b3, 0).2 + 0)) rfl rfl hr8) ?_
  refine GL.val trivial rfl (OV.ibin (v := .bool ((x5 : Int) == x7)) rfl rfl rfl) ?_
  refine GL.val trivial rfl (OV.move (v := .bool ((x5 : Int) == x7)) rfl) ?_
  obtain ⟨J10, h, hR11⟩ := h
  refine GL.cut (α := Bool) 6 J10 (fun b9 => [(16, .bool b9), (2, pv (some (b1, 0))), (3, pv (some (b3, 0)))]) ?_ ?_
  · rcases Bool.eq_false_or_eq_true ((x5 : Int) == x7) with hc12 | hc12
    · skip
      replace h := And.left h hc12
      refine GL.val ⟨_, _, rfl, rfl, hc12⟩ rfl (OV.fieldAddr (p := (b1, 0)) rfl rfl) ?_
      obtain ⟨x13, hr14, h⟩ := h
      refine GL.val ⟨_, _, rfl, rfl, hc12⟩ rfl (OV.load (p := ((b1, 0).1, (b1, 0).2 + 3)) rfl rfl hr14) ?_
      refine GL.val ⟨_, _, rfl, rfl, hc12⟩ rfl (OV.fieldAddr (p := (b3, 0)) rfl rfl) ?_
      obtain ⟨x15, hr16, h⟩ := h
      refine GL.val ⟨_, _, rfl, rfl, hc12⟩ rfl (OV.load (p := ((b3, 0).1, (b3, 0).2 + 3)) rfl rfl hr16) ?_
      refine GL.val ⟨_, _, rfl, rfl, hc12⟩ rfl (OV.sbin (a := x13) (b := x15) (v := .bool (x13 == x15)) rfl rfl rfl) ?_
      refine GL.val trivial rfl (OV.pickT (b := (x5 : Int) == x7) (v := .bool (x13 == x15)) rfl hc12 rfl) ?_
      exact GL.jump (fun _ _ h => h) (x13 == x15) h ⟨rfl, rfl, rfl, trivial⟩
    · skip
      replace h := And.right h hc12
      refine GL.skip ⟨_, rfl, .inl ⟨_, rfl, hc12⟩⟩ rfl ?_
      refine GL.skip ⟨_, rfl, .inl ⟨_, rfl, hc12⟩⟩ rfl ?_
      refine GL.skip ⟨_, rfl, .inl ⟨_, rfl, hc12⟩⟩ rfl ?_
      refine GL.skip ⟨_, rfl, .inl ⟨_, rfl, hc12⟩⟩ rfl ?_
      refine GL.skip ⟨_, rfl, .inl ⟨_, rfl, hc12⟩⟩ rfl ?_
      refine GL.val trivial rfl (OV.pickF (b := (x5 : Int) == x7) (v := .bool false) rfl hc12 rfl) ?_
      exact GL.jump (fun _ _ h => h) false h ⟨rfl, rfl, rfl, trivial⟩
  intro b9 H17 h
  replace h := hR11 b9 H17 h
  refine GL.val trivial rfl (OV.move (v := .bool b9) rfl) ?_
  obtain ⟨J19, h, hR20⟩ := h
  refine GL.cut (α := Bool) 6 J19 (fun b18 => [(23, .bool b18), (2, pv (some (b1, 0))), (3, pv (some (b3, 0)))]) ?_ ?_
  · rcases Bool.eq_false_or_eq_true b9 with hc21 | hc21
    · skip
      replace h := And.left h hc21
      refine GL.val ⟨_, _, rfl, rfl, hc21⟩ rfl (OV.fieldAddr (p := (b1, 0)) rfl rfl) ?_
      obtain ⟨x22, hr23, h⟩ := h
      refine GL.val ⟨_, _, rfl, rfl, hc21⟩ rfl (OV.loadT (p := ((b1, 0).1, (b1, 0).2 + 4)) (cs := T_api_Value.c x22) rfl rfl rfl hr23) ?_
      refine GL.val ⟨_, _, rfl, rfl, hc21⟩ rfl (OV.fieldAddr (p := (b3, 0)) rfl rfl) ?_
      obtain ⟨x24, hr25, h⟩ := h
      refine GL.val ⟨_, _, rfl, rfl, hc21⟩ rfl (OV.loadT (p := ((b3, 0).1, (b3, 0).2 + 4)) (cs := T_api_Value.c x24) rfl rfl rfl hr25) ?_
      refine GL.call h ⟨_, _, rfl, rfl, hc21⟩ rfl ok_tree_sameValue (vs := [.agg (T_api_Value.c x22).toArray, .agg (T_api_Value.c x24).toArray]) rfl ?_
      rintro _ H27 ⟨r26, rfl, h⟩
      refine GL.val trivial rfl (OV.pickT (b := b9) (v := .bool r26) rfl hc21 rfl) ?_
      exact GL.jump (fun _ _ h => h) r26 h ⟨rfl, rfl, rfl, trivial⟩
    · skip
      replace h := And.right h hc21
      refine GL.skip ⟨_, rfl, .inl ⟨_, rfl, hc21⟩⟩ rfl ?_
      refine GL.skip ⟨_, rfl, .inl ⟨_, rfl, hc21⟩⟩ rfl ?_
      refine GL.skip ⟨_, rfl, .inl ⟨_, rfl, hc21⟩⟩ rfl ?_
      refine GL.skip ⟨_, rfl, .inl ⟨_, rfl, hc21⟩⟩ rfl ?_
      refine GL.skip ⟨_, rfl, .inl ⟨_, rfl, hc21⟩⟩ rfl ?_
      refine GL.val trivial rfl (OV.pickF (b := b9) (v := .bool false) rfl hc21 rfl) ?_
      exact GL.jump (fun _ _ h => h) false h ⟨rfl, rfl, rfl, trivial⟩
  intro b18 H28 h
  replace h := hR20 b18 H28 h
  refine GL.val trivial rfl (OV.move (v := .bool b18) rfl) ?_
  obtain ⟨J30, h, hR31⟩ := h
  refine GL.cut (α := Bool) 6 J30 (fun b29 => [(30, .bool b29)]) ?_ ?_
  · rcases Bool.eq_false_or_eq_true b18 with hc32 | hc32
    · skip
      replace h := And.left h hc32
      refine GL.val ⟨_, _, rfl, rfl, hc32⟩ rfl (OV.fieldAddr (p := (b1, 0)) rfl rfl) ?_
      obtain ⟨x33, hr34, h⟩ := h
      refine GL.val ⟨_, _, rfl, rfl, hc32⟩ rfl (OV.load (p := ((b1, 0).1, (b1, 0).2 + 8)) rfl rfl hr34) ?_
      refine GL.val ⟨_, _, rfl, rfl, hc32⟩ rfl (OV.fieldAddr (p := (b3, 0)) rfl rfl) ?_
      obtain ⟨x35, hr36, h⟩ := h
      refine GL.val ⟨_, _, rfl, rfl, hc32⟩ rfl (OV.load (p := ((b3, 0).1, (b3, 0).2 + 8)) rfl rfl hr36) ?_
      refine GL.call h ⟨_, _, rfl, rfl, hc32⟩ rfl ok_slices_EqualFunc_api_Expr_api_Expr_api_Expr_api_Expr (vs := [slv x33, slv x35, .func (.func 82) (List.toArray []) (List.toArray [])]) rfl ?_
      rintro _ H38 ⟨r37, rfl, h⟩
      refine GL.val trivial rfl (OV.pickT (b := b18) (v := .bool r37) rfl hc32 rfl) ?_
      exact GL.jump (fun _ _ h => h) r37 h ⟨rfl, trivial⟩
    · skip
      replace h := And.right h hc32
      refine GL.skip ⟨_, rfl, .inl ⟨_, rfl, hc32⟩⟩ rfl ?_
      refine GL.skip ⟨_, rfl, .inl ⟨_, rfl, hc32⟩⟩ rfl ?_
      refine GL.skip ⟨_, rfl, .inl ⟨_, rfl, hc32⟩⟩ rfl ?_
      refine GL.skip ⟨_, rfl, .inl ⟨_, rfl, hc32⟩⟩ rfl ?_
      refine GL.skip ⟨_, rfl, .inl ⟨_, rfl, hc32⟩⟩ rfl ?_
      refine GL.val trivial rfl (OV.pickF (b := b18) (v := .bool false) rfl hc32 rfl) ?_
      exact GL.jump (fun _ _ h => h) false h ⟨rfl, trivial⟩
  intro b29 H39 h
  replace h := hR31 b29 H39 h
  refine GL.val trivial rfl (OV.assign (v := .bool b29) rfl) ?_
  refine GL.nil ?_
  exact GC.ret (fun _ _ hf hs => post_tmp1 rfl rfl hf hs ⟨b29, rfl, h⟩)

def sh_slices_EqualFunc_api_Literal_api_Literal_api_Literal_api_Literal (C : Ctx) (p_s1 : Sl) (p_s2 : Sl) (p_eq : Value) (K : Bool → Heap → Prop) (H : Heap) : Prop :=
  ift (((Sl.len p_s1 : Int) : Int) != (Sl.len p_s2 : Int))
 (K false H)
 (lp (α := Int) 0 H (fun x2 J3 H4 =>
 ift (decide ((x2 : Int) < (Sl.len p_s1 : Int)))
 (ixa p_s1 x2 fun p6 =>
 ldT H4 T_api_Literal.c (p6.1, p6.2 + (x2 : Int).toNat * 5) fun x11 =>
 nw (T_api_Literal.c T_api_Literal.zero) (fun b13 H14 =>
 stT (b13, 0) (T_api_Literal.c x11) (fun H15 =>
 ixa p_s2 x2 fun p16 =>
 ldT H15 T_api_Literal.c (p16.1, p16.2 + (x2 : Int).toNat * 5) fun x21 =>
 nw (T_api_Literal.c T_api_Literal.zero) (fun b23 H24 =>
 stT (b23, 0) (T_api_Literal.c x21) (fun H25 =>
 ldT H25 T_api_Literal.c (b13, 0) fun x26 =>
 ldT H25 T_api_Literal.c (b23, 0) fun x28 =>
 callU Tryz.prog C p_eq [.agg (T_api_Literal.c x26).toArray, .agg (T_api_Literal.c x28).toArray] H25 (fun v H31 => ∃ (r30 : Bool), v = .bool r30 ∧
 ift (!r30)
 (K false H31)
 (J3 (w .i64 (x2 + 1)) H31))) H24) H15) H14) H4)
 (K true H4)))

theorem ad_slices_EqualFunc_api_Literal_api_Literal_api_Literal_api_Literal (C : Ctx) (p_s1 : Sl) (p_s2 : Sl) (p_eq : Value) (K : Bool → Heap → Prop) (H : Heap) (h : sh_slices_EqualFunc_api_Literal_api_Literal_api_Literal_api_Literal C p_s1 p_s2 p_eq K H) : c_slices_EqualFunc_api_Literal_api_Literal_api_Literal_api_Literal C p_s1 p_s2 p_eq K H := by
  refine Spec.enter Tryz.func83 rfl Tryz.ntmps83 rfl ?_
  refine GC.sub [(0, slv p_s1), (1, slv p_s2), (2, p_eq)] ⟨rfl, rfl, rfl, trivial⟩ ?_
  refine GC.seq ?_
  refine GC.region ?_
  refine GL.val trivial rfl (OV.assign (v := .bool false) rfl) ?_
  refine GL.nil ?_
  refine GC.seq ?_
  refine GC.seq ?_
  refine GC.region ?_
  refine GL.val trivial rfl (OV.move (v := slv p_s1) rfl) ?_
  refine GL.val trivial rfl (OV.lenSl (s := p_s1) rfl rfl) ?_
  refine GL.val trivial rfl (OV.move (v := slv p_s2) rfl) ?_
  refine GL.val trivial rfl (OV.lenSl (s := p_s2) rfl rfl) ?_
  refine GL.val trivial rfl (OV.ibin (v := .bool (((Sl.len p_s1 : Int) : Int) != (Sl.len p_s2 : Int))) rfl rfl rfl) ?_
  refine GL.nil ?_
  refine GC.cond (b := ((Sl.len p_s1 : Int) : Int) != (Sl.len p_s2 : Int)) rfl (fun hc1 => ?_) (fun hc1 => ?_)
  · replace h := And.left h hc1
    refine GC.seq ?_
    refine GC.region ?_
    refine GL.val trivial rfl (OV.assign (v := .bool false) rfl) ?_
    refine GL.nil ?_
    exact GC.ret (fun _ _ hf hs => post_tmp1 rfl rfl hf hs ⟨false, rfl, h⟩)
  · replace h := And.right h hc1
    refine GC.skip ?_
    refine GC.seq ?_
    refine GC.seq ?_
    refine GC.region ?_
    refine GL.val trivial rfl (OV.move (v := slv p_s1) rfl) ?_
    refine GL.val trivial rfl (OV.lenSl (s := p_s1) rfl rfl) ?_
    refine GL.val trivial rfl (OV.move (v := .int .i64 0) rfl) ?_
    refine GL.nil ?_
    refine GC.block ?_
    refine GC.loop (α := Int) h (fun x2 => [(17, .int .i64 x2), (1, slv p_s2), (2, p_eq), (15, slv p_s1), (16, .int .i64 (Sl.len p_s1 : Int))]) ⟨rfl, rfl, rfl, rfl, rfl, trivial⟩ ?_
    intro x2 H4 J3 h
    refine GC.seq ?_
    refine GC.region ?_
    refine GL.val trivial rfl (OV.ibin (v := .bool (decide ((x2 : Int) < (Sl.len p_s1 : Int)))) rfl rfl rfl) ?_
    refine GL.nil ?_
    refine GC.seq ?_
    refine GC.cond (b := decide ((x2 : Int) < (Sl.len p_s1 : Int))) rfl (fun hc5 => ?_) (fun hc5 => ?_)
    · replace h := And.left h hc5
      refine GC.skip ?_
      refine GC.seq ?_
      refine GC.block ?_
      refine GC.seq ?_
      refine GC.region ?_
      refine GL.val trivial rfl (OV.move (v := .int .i64 x2) rfl) ?_
      obtain ⟨p6, ha7, hb8, hc9, hd10, h⟩ := h
      refine GL.val trivial rfl (OV.indexAddr (s := p_s1) rfl rfl rfl rfl ha7 hb8 hc9 hd10) ?_
      obtain ⟨x11, hr12, h⟩ := h
      refine GL.val trivial rfl (OV.loadT (p := (p6.1, p6.2 + (x2 : Int).toNat * 5)) (cs := T_api_Literal.c x11) rfl rfl rfl hr12) ?_
      refine GL.alloc (cs := T_api_Literal.c T_api_Literal.zero) h trivial rfl rfl rfl ?_
      intro b13 H14 h
      refine GL.val trivial rfl (OV.assign (v := .int .i64 x2) rfl) ?_
      refine GL.storeT (p := (b13, 0)) (vs := T_api_Literal.c x11) h trivial rfl rfl rfl rfl ?_
      intro H15 h
      refine GL.nil ?_
      refine GC.seq ?_
      refine GC.region ?_
      refine GL.val trivial rfl (OV.move (v := slv p_s2) rfl) ?_
      refine GL.val trivial rfl (OV.move (v := .int .i64 x2) rfl) ?_
      obtain ⟨p16, ha17, hb18, hc19, hd20, h⟩ := h
      refine GL.val trivial rfl (OV.indexAddr (s := p_s2) rfl rfl rfl rfl ha17 hb18 hc19 hd20) ?_
      obtain ⟨x21, hr22, h⟩ := h
      refine GL.val trivial rfl (OV.loadT (p := (p16.1, p16.2 + (x2 : Int).toNat * 5)) (cs := T_api_Literal.c x21) rfl rfl rfl hr22) ?_
      refine GL.alloc (cs := T_api_Literal.c T_api_Literal.zero) h trivial rfl rfl rfl ?_
      intro b23 H24 h
      refine GL.storeT (p := (b23, 0)) (vs := T_api_Literal.c x21) h trivial rfl rfl rfl rfl ?_
      intro H25 h
      refine GL.nil ?_
      refine GC.seq ?_
      refine GC.region ?_
      refine GL.val trivial rfl (OV.move (v := p_eq) rfl) ?_
      obtain ⟨x26, hr27, h⟩ := h
      refine GL.val trivial rfl (OV.loadT (p := (b13, 0)) (cs := T_api_Literal.c x26) rfl rfl rfl hr27) ?_
      obtain ⟨x28, hr29, h⟩ := h
      refine GL.val trivial rfl (OV.loadT (p := (b23, 0)) (cs := T_api_Literal.c x28) rfl rfl rfl hr29) ?_
      refine GL.callU (xv := p_eq) (vs := [.agg (T_api_Literal.c x26).toArray, .agg (T_api_Literal.c x28).toArray]) h trivial rfl rfl rfl ?_
      rintro _ H31 ⟨r30, rfl, h⟩
      refine GL.val trivial rfl (OV.not rfl) ?_
      refine GL.nil ?_
      refine GC.cond (b := !r30) rfl (fun hc32 => ?_) (fun hc32 => ?_)
      · replace h := And.left h hc32
        refine GC.seq ?_
        refine GC.region ?_
        refine GL.val trivial rfl (OV.assign (v := .bool false) rfl) ?_
        refine GL.nil ?_
        exact GC.ret (fun _ _ hf hs => post_tmp1 rfl rfl hf hs ⟨false, rfl, h⟩)
      · replace h := And.right h hc32
        refine GC.skip_to (fun _ _ h => h) ?_
        refine GC.region ?_
        refine GL.val trivial rfl (OV.ibin (v := .int .i64 (w .i64 (x2 + 1))) rfl rfl rfl) ?_
        refine GL.val trivial rfl (OV.move (v := .int .i64 (w .i64 (x2 + 1))) rfl) ?_
        exact GL.jump (fun _ _ h => h) (w .i64 (x2 + 1)) h ⟨rfl, rfl, rfl, rfl, rfl, trivial⟩
    · replace h := And.right h hc5
      refine GC.exit_to (fun _ _ h => h) ?_
      refine GC.seq ?_
      refine GC.region ?_
      refine GL.val trivial rfl (OV.assign (v := .bool true) rfl) ?_
      refine GL.nil ?_
      exact GC.ret (fun _ _ hf hs => post_tmp1 rfl rfl hf hs ⟨true, rfl, h⟩)

def sh_tree_sameLiteral (C : Ctx) (p_a : T_api_Literal) (p_b : T_api_Literal) (K : Bool → Heap → Prop) (H : Heap) : Prop :=
  nw (T_api_Literal.c p_a) (fun b1 H2 =>
 nw (T_api_Literal.c p_b) (fun b3 H4 =>
 ldI H4 .u8 ((b1, 0).1, (b1, 0).2 + 0) fun x5 =>
 ldI H4 .u8 ((b3, 0).1, (b3, 0).2 + 0) fun x7 =>
 jn (α := Bool) (fun b9 H17 =>
 jn (α := Bool) (fun b18 H28 =>
 K b18 H28)
 (fun J19 => ift b9
 (ldL H17 ((b1, 0).1, (b1, 0).2 + 4) fun x22 =>
 ldL H17 ((b3, 0).1, (b3, 0).2 + 4) fun x24 =>
 c_slices_EqualFunc_api_Expr_api_Expr_api_Expr_api_Expr C x22 x24 (.func (.func 82) (List.toArray []) (List.toArray []) : Value) (fun r26 H27 =>
 J19 r26 H27) H17)
 (J19 false H17)))
 (fun J10 => ift ((x5 : Int) == x7)
 (ldS H4 ((b1, 0).1, (b1, 0).2 + 3) fun x13 =>
 ldS H4 ((b3, 0).1, (b3, 0).2 + 3) fun x15 =>
 J10 (x13 == x15) H4)
 (J10 false H4))) H2) H

theorem ad_tree_sameLiteral (C : Ctx) (p_a : T_api_Literal) (p_b : T_api_Literal) (K : Bool → Heap → Prop) (H : Heap) (h : sh_tree_sameLiteral C p_a p_b K H) : c_tree_sameLiteral C p_a p_b K H := by
  refine Spec.enter Tryz.func84 rfl Tryz.ntmps84 rfl ?_
  refine GC.sub [(0, .agg (T_api_Literal.c p_a).toArray), (1, .agg (T_api_Literal.c p_b).toArray)] ⟨rfl, rfl, trivial⟩ ?_
  refine GC.seq ?_
  refine GC.region ?_
  refine GL.box (v := .agg (T_api_Literal.c p_a).toArray) (cs := T_api_Literal.c p_a) h trivial rfl rfl rfl ?_
  intro b1 H2 h
  refine GL.box (v := .agg (T_api_Literal.c p_b).toArray) (cs := T_api_Literal.c p_b) h trivial rfl rfl rfl ?_
  intro b3 H4 h
  refine GL.val trivial rfl (OV.assign (v := .bool false) rfl) ?_
  refine GL.nil ?_
  refine GC.seq ?_
  refine GC.region ?_
  refine GL.val trivial rfl (OV.fieldAddr (p := (b1, 0)) rfl rfl) ?_
  obtain ⟨x5, hr6, h⟩ := h
  refine GL.val trivial rfl (OV.load (p := ((b1, 0).1, (b1, 0).2 + 0)) rfl rfl hr6) ?_
  refine GL.val trivial rfl (OV.fieldAddr (p := (b3, 0)) rfl rfl) ?_
  obtain ⟨x7, hr8, h⟩ := h
  refine GL.val trivial rfl (OV.load (p := ((b3, 0).1, (b3, 0).2 + 0)) rfl rfl hr8) ?_
  refine GL.val trivial rfl (OV.ibin (v := .bool ((x5 : Int) == x7)) rfl rfl rfl) ?_
  refine GL.val trivial rfl (OV.move (v := .bool ((x5 : Int) == x7)) rfl) ?_
  obtain ⟨J10, h, hR11⟩ := h
  refine GL.cut (α := Bool) 6 J10 (fun b9 => [(16, .bool b9), (2, pv (some (b1, 0))), (3, pv (some (b3, 0)))]) ?_ ?_
  · rcases Bool.eq_false_or_eq_true ((x5 : Int) == x7) with hc12 | hc12
    · skip
      replace h := And.left h hc12
      refine GL.val ⟨_, _, rfl, rfl, hc12⟩ rfl (OV.fieldAddr (p := (b1, 0)) rfl rfl) ?_
      obtain ⟨x13, hr14, h⟩ := h
      refine GL.val ⟨_, _, rfl, rfl, hc12⟩ rfl (OV.load (p := ((b1, 0).1, (b1, 0).2 + 3)) rfl rfl hr14) ?_
      refine GL.val ⟨_, _, rfl, rfl, hc12⟩ rfl (OV.fieldAddr (p := (b3, 0)) rfl rfl) ?_
      obtain ⟨x15, hr16, h⟩ := h
      refine GL.val ⟨_, _, rfl, rfl, hc12⟩ rfl (OV.load (p := ((b3, 0).1, (b3, 0).2 + 3)) rfl rfl hr16) ?_
      refine GL.val ⟨_, _, rfl, rfl, hc12⟩ rfl (OV.sbin (a := x13) (b := x15) (v := .bool (x13 == x15)) rfl rfl rfl) ?_
      refine GL.val trivial rfl (OV.pickT (b := (x5 : Int) == x7) (v := .bool (x13 == x15)) rfl hc12 rfl) ?_
      exact GL.jump (fun _ _ h => h) (x13 == x15) h ⟨rfl, rfl, rfl, trivial⟩
    · skip
      replace h := And.right h hc12
      refine GL.skip ⟨_, rfl, .inl ⟨_, rfl, hc12⟩⟩ rfl ?_
      refine GL.skip ⟨_, rfl, .inl ⟨_, rfl, hc12⟩⟩ rfl ?_
      refine GL.skip ⟨_, rfl, .inl ⟨_, rfl, hc12⟩⟩ rfl ?_
      refine GL.skip ⟨_, rfl, .inl ⟨_, rfl, hc12⟩⟩ rfl ?_
      refine GL.skip ⟨_, rfl, .inl ⟨_, rfl, hc12⟩⟩ rfl ?_
      refine GL.val trivial rfl (OV.pickF (b := (x5 : Int) == x7) (v := .bool false) rfl hc12 rfl) ?_
      exact GL.jump (fun _ _ h => h) false h ⟨rfl, rfl, rfl, trivial⟩
  intro b9 H17 h
  replace h := hR11 b9 H17 h
  refine GL.val trivial rfl (OV.move (v := .bool b9) rfl) ?_
  obtain ⟨J19, h, hR20⟩ := h
  refine GL.cut (α := Bool) 6 J19 (fun b18 => [(23, .bool b18)]) ?_ ?_
  · rcases Bool.eq_false_or_eq_true b9 with hc21 | hc21
    · skip
      replace h := And.left h hc21
      refine GL.val ⟨_, _, rfl, rfl, hc21⟩ rfl (OV.fieldAddr (p := (b1, 0)) rfl rfl) ?_
      obtain ⟨x22, hr23, h⟩ := h
      refine GL.val ⟨_, _, rfl, rfl, hc21⟩ rfl (OV.load (p := ((b1, 0).1, (b1, 0).2 + 4)) rfl rfl hr23) ?_
      refine GL.val ⟨_, _, rfl, rfl, hc21⟩ rfl (OV.fieldAddr (p := (b3, 0)) rfl rfl) ?_
      obtain ⟨x24, hr25, h⟩ := h
      refine GL.val ⟨_, _, rfl, rfl, hc21⟩ rfl (OV.load (p := ((b3, 0).1, (b3, 0).2 + 4)) rfl rfl hr25) ?_
      refine GL.call h ⟨_, _, rfl, rfl, hc21⟩ rfl ok_slices_EqualFunc_api_Expr_api_Expr_api_Expr_api_Expr (vs := [slv x22, slv x24, .func (.func 82) (List.toArray []) (List.toArray [])]) rfl ?_
      rintro _ H27 ⟨r26, rfl, h⟩
      refine GL.val trivial rfl (OV.pickT (b := b9) (v := .bool r26) rfl hc21 rfl) ?_
      exact GL.jump (fun _ _ h => h) r26 h ⟨rfl, trivial⟩
    · skip
      replace h := And.right h hc21
      refine GL.skip ⟨_, rfl, .inl ⟨_, rfl, hc21⟩⟩ rfl ?_
      refine GL.skip ⟨_, rfl, .inl ⟨_, rfl, hc21⟩⟩ rfl ?_
      refine GL.skip ⟨_, rfl, .inl ⟨_, rfl, hc21⟩⟩ rfl ?_
      refine GL.skip ⟨_, rfl, .inl ⟨_, rfl, hc21⟩⟩ rfl ?_
      refine GL.skip ⟨_, rfl, .inl ⟨_, rfl, hc21⟩⟩ rfl ?_
      refine GL.val trivial rfl (OV.pickF (b := b9) (v := .bool false) rfl hc21 rfl) ?_
      exact GL.jump (fun _ _ h => h) false h ⟨rfl, trivial⟩
  intro b18 H28 h
  replace h := hR20 b18 H28 h
  refine GL.val trivial rfl (OV.assign (v := .bool b18) rfl) ?_
  refine GL.nil ?_
  exact GC.ret (fun _ _ hf hs => post_tmp1 rfl rfl hf hs ⟨b18, rfl, h⟩)

def sh_slices_EqualFunc_api_Never_api_Never_api_Never_api_Never (C : Ctx) (p_s1 : Sl) (p_s2 : Sl) (p_eq : Value) (K : Bool → Heap → Prop) (H : Heap) : Prop :=
  ift (((Sl.len p_s1 : Int) : Int) != (Sl.len p_s2 : Int))
 (K false H)
 (lp (α := Int) 0 H (fun x2 J3 H4 =>
 ift (decide ((x2 : Int) < (Sl.len p_s1 : Int)))
 (ixa p_s1 x2 fun p6 =>
 ldT H4 T_api_Never.c (p6.1, p6.2 + (x2 : Int).toNat * 4) fun x11 =>
 nw (T_api_Never.c T_api_Never.zero) (fun b13 H14 =>
 stT (b13, 0) (T_api_Never.c x11) (fun H15 =>
 ixa p_s2 x2 fun p16 =>
 ldT H15 T_api_Never.c (p16.1, p16.2 + (x2 : Int).toNat * 4) fun x21 =>
 nw (T_api_Never.c T_api_Never.zero) (fun b23 H24 =>
 stT (b23, 0) (T_api_Never.c x21) (fun H25 =>
 ldT H25 T_api_Never.c (b13, 0) fun x26 =>
 ldT H25 T_api_Never.c (b23, 0) fun x28 =>
 callU Tryz.prog C p_eq [.agg (T_api_Never.c x26).toArray, .agg (T_api_Never.c x28).toArray] H25 (fun v H31 => ∃ (r30 : Bool), v = .bool r30 ∧
 ift (!r30)
 (K false H31)
 (J3 (w .i64 (x2 + 1)) H31))) H24) H15) H14) H4)
 (K true H4)))

theorem ad_slices_EqualFunc_api_Never_api_Never_api_Never_api_Never (C : Ctx) (p_s1 : Sl) (p_s2 : Sl) (p_eq : Value) (K : Bool → Heap → Prop) (H : Heap) (h : sh_slices_EqualFunc_api_Never_api_Never_api_Never_api_Never C p_s1 p_s2 p_eq K H) : c_slices_EqualFunc_api_Never_api_Never_api_Never_api_Never C p_s1 p_s2 p_eq K H := by
  refine Spec.enter Tryz.func85 rfl Tryz.ntmps85 rfl ?_
  refine GC.sub [(0, slv p_s1), (1, slv p_s2), (2, p_eq)] ⟨rfl, rfl, rfl, trivial⟩ ?_
  refine GC.seq ?_
  refine GC.region ?_
  refine GL.val trivial rfl (OV.assign (v := .bool false) rfl) ?_
  refine GL.nil ?_
  refine GC.seq ?_
  refine GC.seq ?_
  refine GC.region ?_
  refine GL.val trivial rfl (OV.move (v := slv p_s1) rfl) ?_
  refine GL.val trivial rfl (OV.lenSl (s := p_s1) rfl rfl) ?_
  refine GL.val trivial rfl (OV.move (v := slv p_s2) rfl) ?_
  refine GL.val trivial rfl (OV.lenSl (s := p_s2) rfl rfl) ?_
  refine GL.val trivial rfl (OV.ibin (v := .bool (((Sl.len p_s1 : Int) : Int) != (Sl.len p_s2 : Int))) rfl rfl rfl) ?_
  refine GL.nil ?_
  refine GC.cond (b := ((Sl.len p_s1 : Int) : Int) != (Sl.len p_s2 : Int)) rfl (fun hc1 => ?_) (fun hc1 => ?_)
  · replace h := And.left h hc1
    refine GC.seq ?_
    refine GC.region ?_
    refine GL.val trivial rfl (OV.assign (v := .bool false) rfl) ?_
    refine GL.nil ?_
    exact GC.ret (fun _ _ hf hs => post_tmp1 rfl rfl hf hs ⟨false, rfl, h⟩)
  · replace h := And.right h hc1
    refine GC.skip ?_
    refine GC.seq ?_
    refine GC.seq ?_
    refine GC.region ?_
    refine GL.val trivial rfl (OV.move (v := slv p_s1) rfl) ?_
    refine GL.val trivial rfl (OV.lenSl (s := p_s1) rfl rfl) ?_
    refine GL.val trivial rfl (OV.move (v := .int .i64 0) rfl) ?_
    refine GL.nil ?_
    refine GC.block ?_
    refine GC.loop (α := Int) h (fun x2 => [(17, .int .i64 x2), (1, slv p_s2), (2, p_eq), (15, slv p_s1), (16, .int .i64 (Sl.len p_s1 : Int))]) ⟨rfl, rfl, rfl, rfl, rfl, trivial⟩ ?_
    intro x2 H4 J3 h
    refine GC.seq ?_
    refine GC.region ?_
    refine GL.val trivial rfl (OV.ibin (v := .bool (decide ((x2 : Int) < (Sl.len p_s1 : Int)))) rfl rfl rfl) ?_
    refine GL.nil ?_
    refine GC.seq ?_
    refine GC.cond (b := decide ((x2 : Int) < (Sl.len p_s1 : Int))) rfl (fun hc5 => ?_) (fun hc5 => ?_)
    · replace h := And.left h hc5
      refine GC.skip ?_
      refine GC.seq ?_
      refine GC.block ?_
      refine GC.seq ?_
      refine GC.region ?_
      refine GL.val trivial rfl (OV.move (v := .int .i64 x2) rfl) ?_
      obtain ⟨p6, ha7, hb8, hc9, hd10, h⟩ := h
      refine GL.val trivial rfl (OV.indexAddr (s := p_s1) rfl rfl rfl rfl ha7 hb8 hc9 hd10) ?_
      obtain ⟨x11, hr12, h⟩ := h
      refine GL.val trivial rfl (OV.loadT (p := (p6.1, p6.2 + (x2 : Int).toNat * 4)) (cs := T_api_Never.c x11) rfl rfl rfl hr12) ?_
      refine GL.alloc (cs := T_api_Never.c T_api_Never.zero) h trivial rfl rfl rfl ?_
      intro b13 H14 h
      refine GL.val trivial rfl (OV.assign (v := .int .i64 x2) rfl) ?_
      refine GL.storeT (p := (b13, 0)) (vs := T_api_Never.c x11) h trivial rfl rfl rfl rfl ?_
      intro H15 h
      refine GL.nil ?_
      refine GC.seq ?_
      refine GC.region ?_
      refine GL.val trivial rfl (OV.move (v := slv p_s2) rfl) ?_
      refine GL.val trivial rfl (OV.move (v := .int .i64 x2) rfl) ?_
      obtain ⟨p16, ha17, hb18, hc19, hd20, h⟩ := h
      refine GL.val trivial rfl (OV.indexAddr (s := p_s2) rfl rfl rfl rfl ha17 hb18 hc19 hd20) ?_
      obtain ⟨x21, hr22, h⟩ := h
      refine GL.val trivial rfl (OV.loadT (p := (p16.1, p16.2 + (x2 : Int).toNat * 4)) (cs := T_api_Never.c x21) rfl rfl rfl hr22) ?_
      refine GL.alloc (cs := T_api_Never.c T_api_Never.zero) h trivial rfl rfl rfl ?_
      intro b23 H24 h
      refine GL.storeT (p := (b23, 0)) (vs := T_api_Never.c x21) h trivial rfl rfl rfl rfl ?_
      intro H25 h
      refine GL.nil ?_
      refine GC.seq ?_
      refine GC.region ?_
      refine GL.val trivial rfl (OV.move (v := p_eq) rfl) ?_
      obtain ⟨x26, hr27, h⟩ := h
      refine GL.val trivial rfl (OV.loadT (p := (b13, 0)) (cs := T_api_Never.c x26) rfl rfl rfl hr27) ?_
      obtain ⟨x28, hr29, h⟩ := h
      refine GL.val trivial rfl (OV.loadT (p := (b23, 0)) (cs := T_api_Never.c x28) rfl rfl rfl hr29) ?_
      refine GL.callU (xv := p_eq) (vs := [.agg (T_api_Never.c x26).toArray, .agg (T_api_Never.c x28).toArray]) h trivial rfl rfl rfl ?_
      rintro _ H31 ⟨r30, rfl, h⟩
      refine GL.val trivial rfl (OV.not rfl) ?_
      refine GL.nil ?_
      refine GC.cond (b := !r30) rfl (fun hc32 => ?_) (fun hc32 => ?_)
      · replace h := And.left h hc32
        refine GC.seq ?_
        refine GC.region ?_
        refine GL.val trivial rfl (OV.assign (v := .bool false) rfl) ?_
        refine GL.nil ?_
        exact GC.ret (fun _ _ hf hs => post_tmp1 rfl rfl hf hs ⟨false, rfl, h⟩)
      · replace h := And.right h hc32
        refine GC.skip_to (fun _ _ h => h) ?_
        refine GC.region ?_
        refine GL.val trivial rfl (OV.ibin (v := .int .i64 (w .i64 (x2 + 1))) rfl rfl rfl) ?_
        refine GL.val trivial rfl (OV.move (v := .int .i64 (w .i64 (x2 + 1))) rfl) ?_
        exact GL.jump (fun _ _ h => h) (w .i64 (x2 + 1)) h ⟨rfl, rfl, rfl, rfl, rfl, trivial⟩
    · replace h := And.right h hc5
      refine GC.exit_to (fun _ _ h => h) ?_
      refine GC.seq ?_
      refine GC.region ?_
      refine GL.val trivial rfl (OV.assign (v := .bool true) rfl) ?_
      refine GL.nil ?_
      exact GC.ret (fun _ _ hf hs => post_tmp1 rfl rfl hf hs ⟨true, rfl, h⟩)

def sh_tree_Same_5 (C : Ctx) (p_x : T_api_Never) (p_y : T_api_Never) (K : Bool → Heap → Prop) (H : Heap) : Prop :=
  nw (T_api_Never.c p_x) (fun b1 H2 =>
 nw (T_api_Never.c p_y) (fun b3 H4 =>
 ldS H4 ((b1, 0).1, (b1, 0).2 + 2) fun x5 =>
 ldS H4 ((b3, 0).1, (b3, 0).2 + 2) fun x7 =>
 jn (α := Bool) (fun b9 H19 =>
 K b9 H19)
 (fun J10 => ift (x5 == x7)
 (ldL H4 ((b1, 0).1, (b1, 0).2 + 3) fun x13 =>
 ldL H4 ((b3, 0).1, (b3, 0).2 + 3) fun x15 =>
 c_slices_EqualFunc_api_Literal_api_Literal_api_Literal_api_Literal C x13 x15 (.func (.func 84) (List.toArray []) (List.toArray []) : Value) (fun r17 H18 =>
 J10 r17 H18) H4)
 (J10 false H4))) H2) H

theorem ad_tree_Same_5 (C : Ctx) (p_x : T_api_Never) (p_y : T_api_Never) (K : Bool → Heap → Prop) (H : Heap) (h : sh_tree_Same_5 C p_x p_y K H) : c_tree_Same_5 C p_x p_y K H := by
  refine Spec.enter Tryz.func86 rfl Tryz.ntmps86 rfl ?_
  refine GC.sub [(0, .agg (T_api_Never.c p_x).toArray), (1, .agg (T_api_Never.c p_y).toArray)] ⟨rfl, rfl, trivial⟩ ?_
  refine GC.seq ?_
  refine GC.region ?_
  refine GL.box (v := .agg (T_api_Never.c p_x).toArray) (cs := T_api_Never.c p_x) h trivial rfl rfl rfl ?_
  intro b1 H2 h
  refine GL.box (v := .agg (T_api_Never.c p_y).toArray) (cs := T_api_Never.c p_y) h trivial rfl rfl rfl ?_
  intro b3 H4 h
  refine GL.val trivial rfl (OV.assign (v := .bool false) rfl) ?_
  refine GL.nil ?_
  refine GC.seq ?_
  refine GC.region ?_
  refine GL.val trivial rfl (OV.fieldAddr (p := (b1, 0)) rfl rfl) ?_
  obtain ⟨x5, hr6, h⟩ := h
  refine GL.val trivial rfl (OV.load (p := ((b1, 0).1, (b1, 0).2 + 2)) rfl rfl hr6) ?_
  refine GL.val trivial rfl (OV.fieldAddr (p := (b3, 0)) rfl rfl) ?_
  obtain ⟨x7, hr8, h⟩ := h
  refine GL.val trivial rfl (OV.load (p := ((b3, 0).1, (b3, 0).2 + 2)) rfl rfl hr8) ?_
  refine GL.val trivial rfl (OV.sbin (a := x5) (b := x7) (v := .bool (x5 == x7)) rfl rfl rfl) ?_
  refine GL.val trivial rfl (OV.move (v := .bool (x5 == x7)) rfl) ?_
  obtain ⟨J10, h, hR11⟩ := h
  refine GL.cut (α := Bool) 6 J10 (fun b9 => [(16, .bool b9)]) ?_ ?_
  · rcases Bool.eq_false_or_eq_true (x5 == x7) with hc12 | hc12
    · skip
      replace h := And.left h hc12
      refine GL.val ⟨_, _, rfl, rfl, hc12⟩ rfl (OV.fieldAddr (p := (b1, 0)) rfl rfl) ?_
      obtain ⟨x13, hr14, h⟩ := h
      refine GL.val ⟨_, _, rfl, rfl, hc12⟩ rfl (OV.load (p := ((b1, 0).1, (b1, 0).2 + 3)) rfl rfl hr14) ?_
      refine GL.val ⟨_, _, rfl, rfl, hc12⟩ rfl (OV.fieldAddr (p := (b3, 0)) rfl rfl) ?_
      obtain ⟨x15, hr16, h⟩ := h
      refine GL.val ⟨_, _, rfl, rfl, hc12⟩ rfl (OV.load (p := ((b3, 0).1, (b3, 0).2 + 3)) rfl rfl hr16) ?_
      refine GL.call h ⟨_, _, rfl, rfl, hc12⟩ rfl ok_slices_EqualFunc_api_Literal_api_Literal_api_Literal_api_Literal (vs := [slv x13, slv x15, .func (.func 84) (List.toArray []) (List.toArray [])]) rfl ?_
      rintro _ H18 ⟨r17, rfl, h⟩
      refine GL.val trivial rfl (OV.pickT (b := x5 == x7) (v := .bool r17) rfl hc12 rfl) ?_
      exact GL.jump (fun _ _ h => h) r17 h ⟨rfl, trivial⟩
    · skip
      replace h := And.right h hc12
      refine GL.skip ⟨_, rfl, .inl ⟨_, rfl, hc12⟩⟩ rfl ?_
      refine GL.skip ⟨_, rfl, .inl ⟨_, rfl, hc12⟩⟩ rfl ?_
      refine GL.skip ⟨_, rfl, .inl ⟨_, rfl, hc12⟩⟩ rfl ?_
      refine GL.skip ⟨_, rfl, .inl ⟨_, rfl, hc12⟩⟩ rfl ?_
      refine GL.skip ⟨_, rfl, .inl ⟨_, rfl, hc12⟩⟩ rfl ?_
      refine GL.val trivial rfl (OV.pickF (b := x5 == x7) (v := .bool false) rfl hc12 rfl) ?_
      exact GL.jump (fun _ _ h => h) false h ⟨rfl, trivial⟩
  intro b9 H19 h
  replace h := hR11 b9 H19 h
  refine GL.val trivial rfl (OV.assign (v := .bool b9) rfl) ?_
  refine GL.nil ?_
  exact GC.ret (fun _ _ hf hs => post_tmp1 rfl rfl hf hs ⟨b9, rfl, h⟩)

def sh_ref06_sameTypeDef (C : Ctx) (p_a : T_api_TypeDef) (p_b : T_api_TypeDef) (K : Bool → Heap → Prop) (H : Heap) : Prop :=
  nw (T_api_TypeDef.c p_a) (fun b1 H2 =>
 nw (T_api_TypeDef.c p_b) (fun b3 H4 =>
 ldB H4 ((b1, 0).1, (b1, 0).2 + 2) fun x5 =>
 ldB H4 ((b3, 0).1, (b3, 0).2 + 2) fun x7 =>
 jn (α := Bool) (fun b9 H17 =>
 jn (α := Bool) (fun b18 H28 =>
 jn (α := Bool) (fun b29 H37 =>
 ift b29
 (K false H37)
 (lp (α := Int) 0 H37 (fun x39 J40 H41 =>
 ldL H41 ((b1, 0).1, (b1, 0).2 + 5) fun x42 =>
 ift (decide ((x39 : Int) < (Sl.len x42 : Int)))
 (jn (α := Bool) (fun x46 H47 =>
 ift x46
 (K false H47)
 (J40 (w .i64 (x39 + 1)) H47))
 (fun J45 => dr H41 fun Hs49 =>
 ldL Hs49 ((b1, 0).1, (b1, 0).2 + 5) fun x51 =>
 ixa x51 x39 fun p53 =>
 ldS Hs49 ((p53.1, p53.2 + (x39 : Int).toNat * 2).1, (p53.1, p53.2 + (x39 : Int).toNat * 2).2 + 0) fun x58 =>
 ldL Hs49 ((b3, 0).1, (b3, 0).2 + 5) fun x60 =>
 ixa x60 x39 fun p62 =>
 ldS Hs49 ((p62.1, p62.2 + (x39 : Int).toNat * 2).1, (p62.1, p62.2 + (x39 : Int).toNat * 2).2 + 0) fun x67 =>
 ift (!(x58 == x67))
 (J45 true H41)
 (ldL Hs49 ((b1, 0).1, (b1, 0).2 + 5) fun x70 =>
 ixa x70 x39 fun p72 =>
 ldL Hs49 ((p72.1, p72.2 + (x39 : Int).toNat * 2).1, (p72.1, p72.2 + (x39 : Int).toNat * 2).2 + 1) fun x77 =>
 ldL Hs49 ((b3, 0).1, (b3, 0).2 + 5) fun x79 =>
 ixa x79 x39 fun p81 =>
 ldL Hs49 ((p81.1, p81.2 + (x39 : Int).toNat * 2).1, (p81.1, p81.2 + (x39 : Int).toNat * 2).2 + 1) fun x86 =>
 c_ref06_SameFields C x77 x86 (fun r89 H90 =>
 Heap.le Hs49 H90 ∧
 J45 (!r89) H90) H41)))
 (K true H41))))
 (fun J30 => ift b18
 (J30 true H28)
 (ldL H28 ((b1, 0).1, (b1, 0).2 + 5) fun x33 =>
 ldL H28 ((b3, 0).1, (b3, 0).2 + 5) fun x35 =>
 J30 (((Sl.len x33 : Int) : Int) != (Sl.len x35 : Int)) H28)))
 (fun J19 => ift b9
 (J19 true H17)
 (ldL H17 ((b1, 0).1, (b1, 0).2 + 4) fun x22 =>
 ldL H17 ((b3, 0).1, (b3, 0).2 + 4) fun x24 =>
 c_ref06_SameTexts C x22 x24 (fun r26 H27 =>
 J19 (!r26) H27) H17)))
 (fun J10 => ift (!(x5 == x7))
 (J10 true H4)
 (ldS H4 ((b1, 0).1, (b1, 0).2 + 3) fun x13 =>
 ldS H4 ((b3, 0).1, (b3, 0).2 + 3) fun x15 =>
 J10 (!(x13 == x15)) H4))) H2) H

theorem ad_ref06_sameTypeDef (C : Ctx) (p_a : T_api_TypeDef) (p_b : T_api_TypeDef) (K : Bool → Heap → Prop) (H : Heap) (h : sh_ref06_sameTypeDef C p_a p_b K H) : c_ref06_sameTypeDef C p_a p_b K H := by
  refine Spec.enter Tryz.func87 rfl Tryz.ntmps87 rfl ?_
  refine GC.sub [(0, .agg (T_api_TypeDef.c p_a).toArray), (1, .agg (T_api_TypeDef.c p_b).toArray)] ⟨rfl, rfl, trivial⟩ ?_
  refine GC.seq ?_
  refine GC.region ?_
  refine GL.box (v := .agg (T_api_TypeDef.c p_a).toArray) (cs := T_api_TypeDef.c p_a) h trivial rfl rfl rfl ?_
  intro b1 H2 h
  refine GL.box (v := .agg (T_api_TypeDef.c p_b).toArray) (cs := T_api_TypeDef.c p_b) h trivial rfl rfl rfl ?_
  intro b3 H4 h
  refine GL.val trivial rfl (OV.assign (v := .bool false) rfl) ?_
  refine GL.nil ?_
  refine GC.seq ?_
  refine GC.seq ?_
  refine GC.region ?_
  refine GL.val trivial rfl (OV.fieldAddr (p := (b1, 0)) rfl rfl) ?_
  obtain ⟨x5, hr6, h⟩ := h
  refine GL.val trivial rfl (OV.load (p := ((b1, 0).1, (b1, 0).2 + 2)) rfl rfl hr6) ?_
  refine GL.val trivial rfl (OV.fieldAddr (p := (b3, 0)) rfl rfl) ?_
  obtain ⟨x7, hr8, h⟩ := h
  refine GL.val trivial rfl (OV.load (p := ((b3, 0).1, (b3, 0).2 + 2)) rfl rfl hr8) ?_
  refine GL.val trivial rfl (OV.neqBool rfl rfl rfl) ?_
  refine GL.val trivial rfl (OV.move (v := .bool (!(x5 == x7))) rfl) ?_
  obtain ⟨J10, h, hR11⟩ := h
  refine GL.cut (α := Bool) 6 J10 (fun b9 => [(17, .bool b9), (2, pv (some (b1, 0))), (3, pv (some (b3, 0)))]) ?_ ?_
  · rcases Bool.eq_false_or_eq_true (!(x5 == x7)) with hc12 | hc12
    · skip
      replace h := And.left h hc12
      refine GL.skip ⟨_, rfl, .inl ⟨_, rfl, hc12⟩⟩ rfl ?_
      refine GL.skip ⟨_, rfl, .inl ⟨_, rfl, hc12⟩⟩ rfl ?_
      refine GL.skip ⟨_, rfl, .inl ⟨_, rfl, hc12⟩⟩ rfl ?_
      refine GL.skip ⟨_, rfl, .inl ⟨_, rfl, hc12⟩⟩ rfl ?_
      refine GL.skip ⟨_, rfl, .inl ⟨_, rfl, hc12⟩⟩ rfl ?_
      refine GL.val trivial rfl (OV.pickT (b := !(x5 == x7)) (v := .bool true) rfl hc12 rfl) ?_
      exact GL.jump (fun _ _ h => h) true h ⟨rfl, rfl, rfl, trivial⟩
    · skip
      replace h := And.right h hc12
      refine GL.val ⟨_, _, rfl, rfl, hc12⟩ rfl (OV.fieldAddr (p := (b1, 0)) rfl rfl) ?_
      obtain ⟨x13, hr14, h⟩ := h
      refine GL.val ⟨_, _, rfl, rfl, hc12⟩ rfl (OV.load (p := ((b1, 0).1, (b1, 0).2 + 3)) rfl rfl hr14) ?_
      refine GL.val ⟨_, _, rfl, rfl, hc12⟩ rfl (OV.fieldAddr (p := (b3, 0)) rfl rfl) ?_
      obtain ⟨x15, hr16, h⟩ := h
      refine GL.val ⟨_, _, rfl, rfl, hc12⟩ rfl (OV.load (p := ((b3, 0).1, (b3, 0).2 + 3)) rfl rfl hr16) ?_
      refine GL.val ⟨_, _, rfl, rfl, hc12⟩ rfl (OV.sbin (a := x13) (b := x15) (v := .bool (!(x13 == x15))) rfl rfl rfl) ?_
      refine GL.val trivial rfl (OV.pickF (b := !(x5 == x7)) (v := .bool (!(x13 == x15))) rfl hc12 rfl) ?_
      exact GL.jump (fun _ _ h => h) (!(x13 == x15)) h ⟨rfl, rfl, rfl, trivial⟩
  intro b9 H17 h
  replace h := hR11 b9 H17 h
  refine GL.val trivial rfl (OV.move (v := .bool b9) rfl) ?_
  obtain ⟨J19, h, hR20⟩ := h
  refine GL.cut (α := Bool) 7 J19 (fun b18 => [(25, .bool b18), (2, pv (some (b1, 0))), (3, pv (some (b3, 0)))]) ?_ ?_
  · rcases Bool.eq_false_or_eq_true b9 with hc21 | hc21
    · skip
      replace h := And.left h hc21
      refine GL.skip ⟨_, rfl, .inl ⟨_, rfl, hc21⟩⟩ rfl ?_
      refine GL.skip ⟨_, rfl, .inl ⟨_, rfl, hc21⟩⟩ rfl ?_
      refine GL.skip ⟨_, rfl, .inl ⟨_, rfl, hc21⟩⟩ rfl ?_
      refine GL.skip ⟨_, rfl, .inl ⟨_, rfl, hc21⟩⟩ rfl ?_
      refine GL.skip ⟨_, rfl, .inl ⟨_, rfl, hc21⟩⟩ rfl ?_
      refine GL.skip ⟨_, rfl, .inl ⟨_, rfl, hc21⟩⟩ rfl ?_
      refine GL.val trivial rfl (OV.pickT (b := b9) (v := .bool true) rfl hc21 rfl) ?_
      exact GL.jump (fun _ _ h => h) true h ⟨rfl, rfl, rfl, trivial⟩
    · skip
      replace h := And.right h hc21
      refine GL.val ⟨_, _, rfl, rfl, hc21⟩ rfl (OV.fieldAddr (p := (b1, 0)) rfl rfl) ?_
      obtain ⟨x22, hr23, h⟩ := h
      refine GL.val ⟨_, _, rfl, rfl, hc21⟩ rfl (OV.load (p := ((b1, 0).1, (b1, 0).2 + 4)) rfl rfl hr23) ?_
      refine GL.val ⟨_, _, rfl, rfl, hc21⟩ rfl (OV.fieldAddr (p := (b3, 0)) rfl rfl) ?_
      obtain ⟨x24, hr25, h⟩ := h
      refine GL.val ⟨_, _, rfl, rfl, hc21⟩ rfl (OV.load (p := ((b3, 0).1, (b3, 0).2 + 4)) rfl rfl hr25) ?_
      refine GL.call h ⟨_, _, rfl, rfl, hc21⟩ rfl ok_ref06_SameTexts (vs := [slv x22, slv x24]) rfl ?_
      rintro _ H27 ⟨r26, rfl, h⟩
      refine GL.val ⟨_, _, rfl, rfl, hc21⟩ rfl (OV.not rfl) ?_
      refine GL.val trivial rfl (OV.pickF (b := b9) (v := .bool (!r26)) rfl hc21 rfl) ?_
      exact GL.jump (fun _ _ h => h) (!r26) h ⟨rfl, rfl, rfl, trivial⟩
  intro b18 H28 h
  replace h := hR20 b18 H28 h
  refine GL.val trivial rfl (OV.move (v := .bool b18) rfl) ?_
  obtain ⟨J30, h, hR31⟩ := h
  refine GL.cut (α := Bool) 8 J30 (fun b29 => [(34, .bool b29), (2, pv (some (b1, 0))), (3, pv (some (b3, 0)))]) ?_ ?_
  · rcases Bool.eq_false_or_eq_true b18 with hc32 | hc32
    · skip
      replace h := And.left h hc32
      refine GL.skip ⟨_, rfl, .inl ⟨_, rfl, hc32⟩⟩ rfl ?_
      refine GL.skip ⟨_, rfl, .inl ⟨_, rfl, hc32⟩⟩ rfl ?_
      refine GL.skip ⟨_, rfl, .inl ⟨_, rfl, hc32⟩⟩ rfl ?_
      refine GL.skip ⟨_, rfl, .inl ⟨_, rfl, hc32⟩⟩ rfl ?_
      refine GL.skip ⟨_, rfl, .inl ⟨_, rfl, hc32⟩⟩ rfl ?_
      refine GL.skip ⟨_, rfl, .inl ⟨_, rfl, hc32⟩⟩ rfl ?_
      refine GL.skip ⟨_, rfl, .inl ⟨_, rfl, hc32⟩⟩ rfl ?_
      refine GL.val trivial rfl (OV.pickT (b := b18) (v := .bool true) rfl hc32 rfl) ?_
      exact GL.jump (fun _ _ h => h) true h ⟨rfl, rfl, rfl, trivial⟩
    · skip
      replace h := And.right h hc32
      refine GL.val ⟨_, _, rfl, rfl, hc32⟩ rfl (OV.fieldAddr (p := (b1, 0)) rfl rfl) ?_
      obtain ⟨x33, hr34, h⟩ := h
      refine GL.val ⟨_, _, rfl, rfl, hc32⟩ rfl (OV.load (p := ((b1, 0).1, (b1, 0).2 + 5)) rfl rfl hr34) ?_
      refine GL.val ⟨_, _, rfl, rfl, hc32⟩ rfl (OV.lenSl (s := x33) rfl rfl) ?_
      refine GL.val ⟨_, _, rfl, rfl, hc32⟩ rfl (OV.fieldAddr (p := (b3, 0)) rfl rfl) ?_
      obtain ⟨x35, hr36, h⟩ := h
      refine GL.val ⟨_, _, rfl, rfl, hc32⟩ rfl (OV.load (p := ((b3, 0).1, (b3, 0).2 + 5)) rfl rfl hr36) ?_
      refine GL.val ⟨_, _, rfl, rfl, hc32⟩ rfl (OV.lenSl (s := x35) rfl rfl) ?_
      refine GL.val ⟨_, _, rfl, rfl, hc32⟩ rfl (OV.ibin (v := .bool (((Sl.len x33 : Int) : Int) != (Sl.len x35 : Int))) rfl rfl rfl) ?_
      refine GL.val trivial rfl (OV.pickF (b := b18) (v := .bool (((Sl.len x33 : Int) : Int) != (Sl.len x35 : Int))) rfl hc32 rfl) ?_
      exact GL.jump (fun _ _ h => h) (((Sl.len x33 : Int) : Int) != (Sl.len x35 : Int)) h ⟨rfl, rfl, rfl, trivial⟩
  intro b29 H37 h
  replace h := hR31 b29 H37 h
  refine GL.nil ?_
  refine GC.cond (b := b29) rfl (fun hc38 => ?_) (fun hc38 => ?_)
  · replace h := And.left h hc38
    refine GC.seq ?_
    refine GC.region ?_
    refine GL.val trivial rfl (OV.assign (v := .bool false) rfl) ?_
    refine GL.nil ?_
    exact GC.ret (fun _ _ hf hs => post_tmp1 rfl rfl hf hs ⟨false, rfl, h⟩)
  · replace h := And.right h hc38
    refine GC.skip ?_
    refine GC.seq ?_
    refine GC.seq ?_
    refine GC.region ?_
    refine GL.val trivial rfl (OV.assign (v := .int .i64 0) rfl) ?_
    refine GL.nil ?_
    refine GC.block ?_
    refine GC.loop (α := Int) h (fun x39 => [(5, .int .i64 x39), (2, pv (some (b1, 0))), (3, pv (some (b3, 0)))]) ⟨rfl, rfl, rfl, trivial⟩ ?_
    intro x39 H41 J40 h
    refine GC.seq ?_
    refine GC.seq ?_
    refine GC.region ?_
    refine GL.val trivial rfl (OV.move (v := .int .i64 x39) rfl) ?_
    refine GL.val trivial rfl (OV.fieldAddr (p := (b1, 0)) rfl rfl) ?_
    obtain ⟨x42, hr43, h⟩ := h
    refine GL.val trivial rfl (OV.load (p := ((b1, 0).1, (b1, 0).2 + 5)) rfl rfl hr43) ?_
    refine GL.val trivial rfl (OV.lenSl (s := x42) rfl rfl) ?_
    refine GL.val trivial rfl (OV.ibin (v := .bool (decide ((x39 : Int) < (Sl.len x42 : Int)))) rfl rfl rfl) ?_
    refine GL.nil ?_
    refine GC.cond (b := decide ((x39 : Int) < (Sl.len x42 : Int))) rfl (fun hc44 => ?_) (fun hc44 => ?_)
    · replace h := And.left h hc44
      refine GC.skip ?_
      refine GC.seq ?_
      refine GC.block ?_
      refine GC.seq ?_
      obtain ⟨J45, h, hR48⟩ := h
      refine GC.meet (α := Bool) J45 (fun x46 => [(70, .bool x46), (2, pv (some (b1, 0))), (3, pv (some (b3, 0))), (5, .int .i64 x39)]) ?_ ?_
      · skip
        obtain ⟨Hs49, hle50, h⟩ := h
        refine GC.any (Hs := Hs49) (by kernel_rfl) hle50 ?_
        refine GA.take 0 rfl (by kernel_rfl) (by kernel_rfl) (by kernel_rfl) (fun _ _ _ h => False.elim h) trivial rfl (OV.fieldAddr (p := (b1, 0)) rfl rfl) ?_
        obtain ⟨x51, hr52, h⟩ := h
        refine GA.take 1 rfl (by kernel_rfl) (by kernel_rfl) (by kernel_rfl) (fun _ _ _ h => False.elim h) trivial rfl (OV.load (p := ((b1, 0).1, (b1, 0).2 + 5)) rfl rfl hr52) ?_
        refine GA.take 2 rfl (by kernel_rfl) (by kernel_rfl) (by kernel_rfl) (fun _ _ _ h => False.elim h) trivial rfl (OV.move (v := .int .i64 x39) rfl) ?_
        obtain ⟨p53, ha54, hb55, hc56, hd57, h⟩ := h
        refine GA.take 3 rfl (by kernel_rfl) (by kernel_rfl) (by kernel_rfl) (fun _ _ _ h => False.elim h) trivial rfl (OV.indexAddr (s := x51) rfl rfl rfl rfl ha54 hb55 hc56 hd57) ?_
        refine GA.take 4 rfl (by kernel_rfl) (by kernel_rfl) (by kernel_rfl) (fun _ _ _ h => False.elim h) trivial rfl (OV.fieldAddr (p := (p53.1, p53.2 + (x39 : Int).toNat * 2)) rfl rfl) ?_
        obtain ⟨x58, hr59, h⟩ := h
        refine GA.take 5 rfl (by kernel_rfl) (by kernel_rfl) (by kernel_rfl) (fun _ _ _ h => False.elim h) trivial rfl (OV.load (p := ((p53.1, p53.2 + (x39 : Int).toNat * 2).1, (p53.1, p53.2 + (x39 : Int).toNat * 2).2 + 0)) rfl rfl hr59) ?_
        refine GA.take 6 rfl (by kernel_rfl) (by kernel_rfl) (by kernel_rfl) (fun _ _ _ h => False.elim h) trivial rfl (OV.fieldAddr (p := (b3, 0)) rfl rfl) ?_
        obtain ⟨x60, hr61, h⟩ := h
        refine GA.take 7 rfl (by kernel_rfl) (by kernel_rfl) (by kernel_rfl) (fun _ _ _ h => False.elim h) trivial rfl (OV.load (p := ((b3, 0).1, (b3, 0).2 + 5)) rfl rfl hr61) ?_
        refine GA.take 8 rfl (by kernel_rfl) (by kernel_rfl) (by kernel_rfl) (fun _ _ _ h => False.elim h) trivial rfl (OV.move (v := .int .i64 x39) rfl) ?_
        obtain ⟨p62, ha63, hb64, hc65, hd66, h⟩ := h
        refine GA.take 9 rfl (by kernel_rfl) (by kernel_rfl) (by kernel_rfl) (fun _ _ _ h => False.elim h) trivial rfl (OV.indexAddr (s := x60) rfl rfl rfl rfl ha63 hb64 hc65 hd66) ?_
        refine GA.take 10 rfl (by kernel_rfl) (by kernel_rfl) (by kernel_rfl) (fun _ _ _ h => False.elim h) trivial rfl (OV.fieldAddr (p := (p62.1, p62.2 + (x39 : Int).toNat * 2)) rfl rfl) ?_
        obtain ⟨x67, hr68, h⟩ := h
        refine GA.take 11 rfl (by kernel_rfl) (by kernel_rfl) (by kernel_rfl) (fun _ _ _ h => False.elim h) trivial rfl (OV.load (p := ((p62.1, p62.2 + (x39 : Int).toNat * 2).1, (p62.1, p62.2 + (x39 : Int).toNat * 2).2 + 0)) rfl rfl hr68) ?_
        refine GA.take 12 rfl (by kernel_rfl) (by kernel_rfl) (by kernel_rfl) (fun _ _ _ h => False.elim h) trivial rfl (OV.sbin (a := x58) (b := x67) (v := .bool (!(x58 == x67))) rfl rfl rfl) ?_
        refine GA.take 13 rfl (by kernel_rfl) (by kernel_rfl) (by kernel_rfl) (fun _ _ _ h => False.elim h) trivial rfl (OV.move (v := .bool (!(x58 == x67))) rfl) ?_
        rcases Bool.eq_false_or_eq_true (!(x58 == x67)) with hc69 | hc69
        · replace h := And.left h hc69
          refine GA.skip 14 rfl (by kernel_rfl) (by kernel_rfl) (by kernel_rfl) (fun _ _ _ h => False.elim h) ⟨_, rfl, .inl ⟨_, rfl, hc69⟩⟩ rfl ?_
          refine GA.skip 15 rfl (by kernel_rfl) (by kernel_rfl) (by kernel_rfl) (fun _ _ _ h => False.elim h) ⟨_, rfl, .inl ⟨_, rfl, hc69⟩⟩ rfl ?_
          refine GA.skip 16 rfl (by kernel_rfl) (by kernel_rfl) (by kernel_rfl) (fun _ _ _ h => False.elim h) ⟨_, rfl, .inl ⟨_, rfl, hc69⟩⟩ rfl ?_
          refine GA.skip 17 rfl (by kernel_rfl) (by kernel_rfl) (by kernel_rfl) (fun _ _ _ h => False.elim h) ⟨_, rfl, .inl ⟨_, rfl, hc69⟩⟩ rfl ?_
          refine GA.skip 18 rfl (by kernel_rfl) (by kernel_rfl) (by kernel_rfl) (fun _ _ _ h => False.elim h) ⟨_, rfl, .inl ⟨_, rfl, hc69⟩⟩ rfl ?_
          refine GA.skip 19 rfl (by kernel_rfl) (by kernel_rfl) (by kernel_rfl) (fun _ _ _ h => False.elim h) ⟨_, rfl, .inl ⟨_, rfl, hc69⟩⟩ rfl ?_
          refine GA.skip 20 rfl (by kernel_rfl) (by kernel_rfl) (by kernel_rfl) (fun _ _ _ h => False.elim h) ⟨_, rfl, .inl ⟨_, rfl, hc69⟩⟩ rfl ?_
          refine GA.skip 21 rfl (by kernel_rfl) (by kernel_rfl) (by kernel_rfl) (fun _ _ _ h => False.elim h) ⟨_, rfl, .inl ⟨_, rfl, hc69⟩⟩ rfl ?_
          refine GA.skip 22 rfl (by kernel_rfl) (by kernel_rfl) (by kernel_rfl) (fun _ _ _ h => False.elim h) ⟨_, rfl, .inl ⟨_, rfl, hc69⟩⟩ rfl ?_
          refine GA.skip 23 rfl (by kernel_rfl) (by kernel_rfl) (by kernel_rfl) (fun _ _ _ h => False.elim h) ⟨_, rfl, .inl ⟨_, rfl, hc69⟩⟩ rfl ?_
          refine GA.skip 24 rfl (by kernel_rfl) (by kernel_rfl) (by kernel_rfl) (fun _ _ _ h => False.elim h) ⟨_, rfl, .inl ⟨_, rfl, hc69⟩⟩ rfl ?_
          refine GA.skip 25 rfl (by kernel_rfl) (by kernel_rfl) (by kernel_rfl) (fun _ _ _ h => False.elim h) ⟨_, rfl, .inl ⟨_, rfl, hc69⟩⟩ rfl ?_
          refine GA.skip 26 rfl (by kernel_rfl) (by kernel_rfl) (by kernel_rfl) (fun _ _ _ h => False.elim h) ⟨_, rfl, .inl ⟨_, rfl, hc69⟩⟩ rfl ?_
          refine GA.skip 27 rfl (by kernel_rfl) (by kernel_rfl) (by kernel_rfl) (fun _ _ _ h => False.elim h) ⟨_, rfl, .inl ⟨_, rfl, hc69⟩⟩ rfl ?_
          refine GA.take 28 rfl (by kernel_rfl) (by kernel_rfl) (by kernel_rfl) (fun _ _ _ h => False.elim h) trivial rfl (OV.pickT (b := !(x58 == x67)) (v := .bool true) rfl hc69 rfl) ?_
          refine GA.done (by kernel_rfl) ?_
          exact GL.jump (fun _ _ h => h) true h ⟨rfl, rfl, rfl, rfl, trivial⟩
        · replace h := And.right h hc69
          refine GA.take 14 rfl (by kernel_rfl) (by kernel_rfl) (by kernel_rfl) (fun _ _ _ h => False.elim h) ⟨_, _, rfl, rfl, hc69⟩ rfl (OV.fieldAddr (p := (b1, 0)) rfl rfl) ?_
          obtain ⟨x70, hr71, h⟩ := h
          refine GA.take 15 rfl (by kernel_rfl) (by kernel_rfl) (by kernel_rfl) (fun _ _ _ h => False.elim h) ⟨_, _, rfl, rfl, hc69⟩ rfl (OV.load (p := ((b1, 0).1, (b1, 0).2 + 5)) rfl rfl hr71) ?_
          refine GA.take 16 rfl (by kernel_rfl) (by kernel_rfl) (by kernel_rfl) (fun _ _ _ h => False.elim h) ⟨_, _, rfl, rfl, hc69⟩ rfl (OV.move (v := .int .i64 x39) rfl) ?_
          obtain ⟨p72, ha73, hb74, hc75, hd76, h⟩ := h
          refine GA.take 17 rfl (by kernel_rfl) (by kernel_rfl) (by kernel_rfl) (fun _ _ _ h => False.elim h) ⟨_, _, rfl, rfl, hc69⟩ rfl (OV.indexAddr (s := x70) rfl rfl rfl rfl ha73 hb74 hc75 hd76) ?_
          refine GA.take 18 rfl (by kernel_rfl) (by kernel_rfl) (by kernel_rfl) (fun _ _ _ h => False.elim h) ⟨_, _, rfl, rfl, hc69⟩ rfl (OV.fieldAddr (p := (p72.1, p72.2 + (x39 : Int).toNat * 2)) rfl rfl) ?_
          obtain ⟨x77, hr78, h⟩ := h
          refine GA.take 19 rfl (by kernel_rfl) (by kernel_rfl) (by kernel_rfl) (fun _ _ _ h => False.elim h) ⟨_, _, rfl, rfl, hc69⟩ rfl (OV.load (p := ((p72.1, p72.2 + (x39 : Int).toNat * 2).1, (p72.1, p72.2 + (x39 : Int).toNat * 2).2 + 1)) rfl rfl hr78) ?_
          refine GA.take 20 rfl (by kernel_rfl) (by kernel_rfl) (by kernel_rfl) (fun _ _ _ h => False.elim h) ⟨_, _, rfl, rfl, hc69⟩ rfl (OV.fieldAddr (p := (b3, 0)) rfl rfl) ?_
          obtain ⟨x79, hr80, h⟩ := h
          refine GA.take 21 rfl (by kernel_rfl) (by kernel_rfl) (by kernel_rfl) (fun _ _ _ h => False.elim h) ⟨_, _, rfl, rfl, hc69⟩ rfl (OV.load (p := ((b3, 0).1, (b3, 0).2 + 5)) rfl rfl hr80) ?_
          refine GA.take 22 rfl (by kernel_rfl) (by kernel_rfl) (by kernel_rfl) (fun _ _ _ h => False.elim h) ⟨_, _, rfl, rfl, hc69⟩ rfl (OV.move (v := .int .i64 x39) rfl) ?_
          obtain ⟨p81, ha82, hb83, hc84, hd85, h⟩ := h
          refine GA.take 23 rfl (by kernel_rfl) (by kernel_rfl) (by kernel_rfl) (fun _ _ _ h => False.elim h) ⟨_, _, rfl, rfl, hc69⟩ rfl (OV.indexAddr (s := x79) rfl rfl rfl rfl ha82 hb83 hc84 hd85) ?_
          refine GA.take 24 rfl (by kernel_rfl) (by kernel_rfl) (by kernel_rfl) (fun _ _ _ h => False.elim h) ⟨_, _, rfl, rfl, hc69⟩ rfl (OV.fieldAddr (p := (p81.1, p81.2 + (x39 : Int).toNat * 2)) rfl rfl) ?_
          obtain ⟨x86, hr87, h⟩ := h
          refine GA.take 25 rfl (by kernel_rfl) (by kernel_rfl) (by kernel_rfl) (fun _ _ _ h => False.elim h) ⟨_, _, rfl, rfl, hc69⟩ rfl (OV.load (p := ((p81.1, p81.2 + (x39 : Int).toNat * 2).1, (p81.1, p81.2 + (x39 : Int).toNat * 2).2 + 1)) rfl rfl hr87) ?_
          refine GA.eff 26 rfl (by kernel_rfl) ?_
          refine GL.call h ⟨_, _, rfl, rfl, hc69⟩ rfl ok_ref06_SameFields (vs := [slv x77, slv x86]) rfl ?_
          rintro _ H90 ⟨r89, rfl, h⟩
          obtain ⟨hle88, h⟩ := h
          refine GA.back hle88 ?_
          refine GA.take 27 rfl (by kernel_rfl) (by kernel_rfl) (by kernel_rfl) (fun _ _ _ h => False.elim h) ⟨_, _, rfl, rfl, hc69⟩ rfl (OV.not rfl) ?_
          refine GA.take 28 rfl (by kernel_rfl) (by kernel_rfl) (by kernel_rfl) (fun _ _ _ h => False.elim h) trivial rfl (OV.pickF (b := !(x58 == x67)) (v := .bool (!r89)) rfl hc69 rfl) ?_
          refine GA.done (by kernel_rfl) ?_
          exact GL.jump (fun _ _ h => h) (!r89) h ⟨rfl, rfl, rfl, rfl, trivial⟩
      · intro x46 H47 h
        replace h := hR48 x46 H47 h
        refine GL.nil ?_
        refine GC.cond (b := x46) rfl (fun hc91 => ?_) (fun hc91 => ?_)
        · replace h := And.left h hc91
          refine GC.seq ?_
          refine GC.region ?_
          refine GL.val trivial rfl (OV.assign (v := .bool false) rfl) ?_
          refine GL.nil ?_
          exact GC.ret (fun _ _ hf hs => post_tmp1 rfl rfl hf hs ⟨false, rfl, h⟩)
        · replace h := And.right h hc91
          refine GC.skip_to (fun _ _ h => h) ?_
          refine GC.region ?_
          refine GL.val trivial rfl (OV.move (v := .int .i64 x39) rfl) ?_
          refine GL.val trivial rfl (OV.ibin (v := .int .i64 (w .i64 (x39 + 1))) rfl rfl rfl) ?_
          refine GL.val trivial rfl (OV.assign (v := .int .i64 (w .i64 (x39 + 1))) rfl) ?_
          exact GL.jump (fun _ _ h => h) (w .i64 (x39 + 1)) h ⟨rfl, rfl, rfl, trivial⟩
    · replace h := And.right h hc44
      refine GC.exit_to (fun _ _ h => h) ?_
      refine GC.seq ?_
      refine GC.region ?_
      refine GL.val trivial rfl (OV.assign (v := .bool true) rfl) ?_
      refine GL.nil ?_
      exact GC.ret (fun _ _ hf hs => post_tmp1 rfl rfl hf hs ⟨true, rfl, h⟩)

def sh_ref06_SameFields (C : Ctx) (p_a : Sl) (p_b : Sl) (K : Bool → Heap → Prop) (H : Heap) : Prop :=
  ift (((Sl.len p_a : Int) : Int) != (Sl.len p_b : Int))
 (K false H)
 (lp (α := Int) 0 H (fun x2 J3 H4 =>
 ift (decide ((x2 : Int) < (Sl.len p_a : Int)))
 (jn (α := Bool) (fun x7 H8 =>
 ift x7
 (K false H8)
 (J3 (w .i64 (x2 + 1)) H8))
 (fun J6 => dr H4 fun Hs10 =>
 ixa p_a x2 fun p12 =>
 ldS Hs10 ((p12.1, p12.2 + (x2 : Int).toNat * 3).1, (p12.1, p12.2 + (x2 : Int).toNat * 3).2 + 0) fun x17 =>
 ixa p_b x2 fun p19 =>
 ldS Hs10 ((p19.1, p19.2 + (x2 : Int).toNat * 3).1, (p19.1, p19.2 + (x2 : Int).toNat * 3).2 + 0) fun x24 =>
 ift (!(x17 == x24))
 (J6 true H4)
 (ixa p_a x2 fun p27 =>
 ldT Hs10 T_api_Type.c ((p27.1, p27.2 + (x2 : Int).toNat * 3).1, (p27.1, p27.2 + (x2 : Int).toNat * 3).2 + 1) fun x32 =>
 ixa p_b x2 fun p34 =>
 ldT Hs10 T_api_Type.c ((p34.1, p34.2 + (x2 : Int).toNat * 3).1, (p34.1, p34.2 + (x2 : Int).toNat * 3).2 + 1) fun x39 =>
 c_ref06_SameType C x32 x39 (fun r42 H43 =>
 Heap.le Hs10 H43 ∧
 J6 (!r42) H43) H4)))
 (K true H4)))

theorem ad_ref06_SameFields (C : Ctx) (p_a : Sl) (p_b : Sl) (K : Bool → Heap → Prop) (H : Heap) (h : sh_ref06_SameFields C p_a p_b K H) : c_ref06_SameFields C p_a p_b K H := by
  refine Spec.enter Tryz.func88 rfl Tryz.ntmps88 rfl ?_
  refine GC.sub [(0, slv p_a), (1, slv p_b)] ⟨rfl, rfl, trivial⟩ ?_
  refine GC.seq ?_
  refine GC.region ?_
  refine GL.val trivial rfl (OV.assign (v := .bool false) rfl) ?_
  refine GL.nil ?_
  refine GC.seq ?_
  refine GC.seq ?_
  refine GC.region ?_
  refine GL.val trivial rfl (OV.move (v := slv p_a) rfl) ?_
  refine GL.val trivial rfl (OV.lenSl (s := p_a) rfl rfl) ?_
  refine GL.val trivial rfl (OV.move (v := slv p_b) rfl) ?_
  refine GL.val trivial rfl (OV.lenSl (s := p_b) rfl rfl) ?_
  refine GL.val trivial rfl (OV.ibin (v := .bool (((Sl.len p_a : Int) : Int) != (Sl.len p_b : Int))) rfl rfl rfl) ?_
  refine GL.nil ?_
  refine GC.cond (b := ((Sl.len p_a : Int) : Int) != (Sl.len p_b : Int)) rfl (fun hc1 => ?_) (fun hc1 => ?_)
  · replace h := And.left h hc1
    refine GC.seq ?_
    refine GC.region ?_
    refine GL.val trivial rfl (OV.assign (v := .bool false) rfl) ?_
    refine GL.nil ?_
    exact GC.ret (fun _ _ hf hs => post_tmp1 rfl rfl hf hs ⟨false, rfl, h⟩)
  · replace h := And.right h hc1
    refine GC.skip ?_
    refine GC.seq ?_
    refine GC.seq ?_
    refine GC.region ?_
    refine GL.val trivial rfl (OV.assign (v := .int .i64 0) rfl) ?_
    refine GL.nil ?_
    refine GC.block ?_
    refine GC.loop (α := Int) h (fun x2 => [(5, .int .i64 x2), (0, slv p_a), (1, slv p_b)]) ⟨rfl, rfl, rfl, trivial⟩ ?_
    intro x2 H4 J3 h
    refine GC.seq ?_
    refine GC.seq ?_
    refine GC.region ?_
    refine GL.val trivial rfl (OV.move (v := .int .i64 x2) rfl) ?_
    refine GL.val trivial rfl (OV.move (v := slv p_a) rfl) ?_
    refine GL.val trivial rfl (OV.lenSl (s := p_a) rfl rfl) ?_
    refine GL.val trivial rfl (OV.ibin (v := .bool (decide ((x2 : Int) < (Sl.len p_a : Int)))) rfl rfl rfl) ?_
    refine GL.nil ?_
    refine GC.cond (b := decide ((x2 : Int) < (Sl.len p_a : Int))) rfl (fun hc5 => ?_) (fun hc5 => ?_)
    · replace h := And.left h hc5
      refine GC.skip ?_
      refine GC.seq ?_
      refine GC.block ?_
      refine GC.seq ?_
      obtain ⟨J6, h, hR9⟩ := h
      refine GC.meet (α := Bool) J6 (fun x7 => [(41, .bool x7), (0, slv p_a), (1, slv p_b), (5, .int .i64 x2)]) ?_ ?_
      · skip
        obtain ⟨Hs10, hle11, h⟩ := h
        refine GC.any (Hs := Hs10) (by kernel_rfl) hle11 ?_
        refine GA.take 0 rfl (by kernel_rfl) (by kernel_rfl) (by kernel_rfl) (fun _ _ _ h => False.elim h) trivial rfl (OV.move (v := slv p_a) rfl) ?_
        refine GA.take 1 rfl (by kernel_rfl) (by kernel_rfl) (by kernel_rfl) (fun _ _ _ h => False.elim h) trivial rfl (OV.move (v := .int .i64 x2) rfl) ?_
        obtain ⟨p12, ha13, hb14, hc15, hd16, h⟩ := h
        refine GA.take 2 rfl (by kernel_rfl) (by kernel_rfl) (by kernel_rfl) (fun _ _ _ h => False.elim h) trivial rfl (OV.indexAddr (s := p_a) rfl rfl rfl rfl ha13 hb14 hc15 hd16) ?_
        refine GA.take 3 rfl (by kernel_rfl) (by kernel_rfl) (by kernel_rfl) (fun _ _ _ h => False.elim h) trivial rfl (OV.fieldAddr (p := (p12.1, p12.2 + (x2 : Int).toNat * 3)) rfl rfl) ?_
        obtain ⟨x17, hr18, h⟩ := h
        refine GA.take 4 rfl (by kernel_rfl) (by kernel_rfl) (by kernel_rfl) (fun _ _ _ h => False.elim h) trivial rfl (OV.load (p := ((p12.1, p12.2 + (x2 : Int).toNat * 3).1, (p12.1, p12.2 + (x2 : Int).toNat * 3).2 + 0)) rfl rfl hr18) ?_
        refine GA.take 5 rfl (by kernel_rfl) (by kernel_rfl) (by kernel_rfl) (fun _ _ _ h => False.elim h) trivial rfl (OV.move (v := slv p_b) rfl) ?_
        refine GA.take 6 rfl (by kernel_rfl) (by kernel_rfl) (by kernel_rfl) (fun _ _ _ h => False.elim h) trivial rfl (OV.move (v := .int .i64 x2) rfl) ?_
        obtain ⟨p19, ha20, hb21, hc22, hd23, h⟩ := h
        refine GA.take 7 rfl (by kernel_rfl) (by kernel_rfl) (by kernel_rfl) (fun _ _ _ h => False.elim h) trivial rfl (OV.indexAddr (s := p_b) rfl rfl rfl rfl ha20 hb21 hc22 hd23) ?_
        refine GA.take 8 rfl (by kernel_rfl) (by kernel_rfl) (by kernel_rfl) (fun _ _ _ h => False.elim h) trivial rfl (OV.fieldAddr (p := (p19.1, p19.2 + (x2 : Int).toNat * 3)) rfl rfl) ?_
        obtain ⟨x24, hr25, h⟩ := h
        refine GA.take 9 rfl (by kernel_rfl) (by kernel_rfl) (by kernel_rfl) (fun _ _ _ h => False.elim h) trivial rfl (OV.load (p := ((p19.1, p19.2 + (x2 : Int).toNat * 3).1, (p19.1, p19.2 + (x2 : Int).toNat * 3).2 + 0)) rfl rfl hr25) ?_
        refine GA.take 10 rfl (by kernel_rfl) (by kernel_rfl) (by kernel_rfl) (fun _ _ _ h => False.elim h) trivial rfl (OV.sbin (a := x17) (b := x24) (v := .bool (!(x17 == x24))) rfl rfl rfl) ?_
        refine GA.take 11 rfl (by kernel_rfl) (by kernel_rfl) (by kernel_rfl) (fun _ _ _ h => False.elim h) trivial rfl (OV.move (v := .bool (!(x17 == x24))) rfl) ?_
        rcases Bool.eq_false_or_eq_true (!(x17 == x24)) with hc26 | hc26
        · replace h := And.left h hc26
          refine GA.skip 12 rfl (by kernel_rfl) (by kernel_rfl) (by kernel_rfl) (fun _ _ _ h => False.elim h) ⟨_, rfl, .inl ⟨_, rfl, hc26⟩⟩ rfl ?_
          refine GA.skip 13 rfl (by kernel_rfl) (by kernel_rfl) (by kernel_rfl) (fun _ _ _ h => False.elim h) ⟨_, rfl, .inl ⟨_, rfl, hc26⟩⟩ rfl ?_
          refine GA.skip 14 rfl (by kernel_rfl) (by kernel_rfl) (by kernel_rfl) (fun _ _ _ h => False.elim h) ⟨_, rfl, .inl ⟨_, rfl, hc26⟩⟩ rfl ?_
          refine GA.skip 15 rfl (by kernel_rfl) (by kernel_rfl) (by kernel_rfl) (fun _ _ _ h => False.elim h) ⟨_, rfl, .inl ⟨_, rfl, hc26⟩⟩ rfl ?_
          refine GA.skip 16 rfl (by kernel_rfl) (by kernel_rfl) (by kernel_rfl) (fun _ _ _ h => False.elim h) ⟨_, rfl, .inl ⟨_, rfl, hc26⟩⟩ rfl ?_
          refine GA.skip 17 rfl (by kernel_rfl) (by kernel_rfl) (by kernel_rfl) (fun _ _ _ h => False.elim h) ⟨_, rfl, .inl ⟨_, rfl, hc26⟩⟩ rfl ?_
          refine GA.skip 18 rfl (by kernel_rfl) (by kernel_rfl) (by kernel_rfl) (fun _ _ _ h => False.elim h) ⟨_, rfl, .inl ⟨_, rfl, hc26⟩⟩ rfl ?_
          refine GA.skip 19 rfl (by kernel_rfl) (by kernel_rfl) (by kernel_rfl) (fun _ _ _ h => False.elim h) ⟨_, rfl, .inl ⟨_, rfl, hc26⟩⟩ rfl ?_
          refine GA.skip 20 rfl (by kernel_rfl) (by kernel_rfl) (by kernel_rfl) (fun _ _ _ h => False.elim h) ⟨_, rfl, .inl ⟨_, rfl, hc26⟩⟩ rfl ?_
          refine GA.skip 21 rfl (by kernel_rfl) (by kernel_rfl) (by kernel_rfl) (fun _ _ _ h => False.elim h) ⟨_, rfl, .inl ⟨_, rfl, hc26⟩⟩ rfl ?_
          refine GA.skip 22 rfl (by kernel_rfl) (by kernel_rfl) (by kernel_rfl) (fun _ _ _ h => False.elim h) ⟨_, rfl, .inl ⟨_, rfl, hc26⟩⟩ rfl ?_
          refine GA.skip 23 rfl (by kernel_rfl) (by kernel_rfl) (by kernel_rfl) (fun _ _ _ h => False.elim h) ⟨_, rfl, .inl ⟨_, rfl, hc26⟩⟩ rfl ?_
          refine GA.take 24 rfl (by kernel_rfl) (by kernel_rfl) (by kernel_rfl) (fun _ _ _ h => False.elim h) trivial rfl (OV.pickT (b := !(x17 == x24)) (v := .bool true) rfl hc26 rfl) ?_
          refine GA.done (by kernel_rfl) ?_
          exact GL.jump (fun _ _ h => h) true h ⟨rfl, rfl, rfl, rfl, trivial⟩
        · replace h := And.right h hc26
          refine GA.take 12 rfl (by kernel_rfl) (by kernel_rfl) (by kernel_rfl) (fun _ _ _ h => False.elim h) ⟨_, _, rfl, rfl, hc26⟩ rfl (OV.move (v := slv p_a) rfl) ?_
          refine GA.take 13 rfl (by kernel_rfl) (by kernel_rfl) (by kernel_rfl) (fun _ _ _ h => False.elim h) ⟨_, _, rfl, rfl, hc26⟩ rfl (OV.move (v := .int .i64 x2) rfl) ?_
          obtain ⟨p27, ha28, hb29, hc30, hd31, h⟩ := h
          refine GA.take 14 rfl (by kernel_rfl) (by kernel_rfl) (by kernel_rfl) (fun _ _ _ h => False.elim h) ⟨_, _, rfl, rfl, hc26⟩ rfl (OV.indexAddr (s := p_a) rfl rfl rfl rfl ha28 hb29 hc30 hd31) ?_
          refine GA.take 15 rfl (by kernel_rfl) (by kernel_rfl) (by kernel_rfl) (fun _ _ _ h => False.elim h) ⟨_, _, rfl, rfl, hc26⟩ rfl (OV.fieldAddr (p := (p27.1, p27.2 + (x2 : Int).toNat * 3)) rfl rfl) ?_
          obtain ⟨x32, hr33, h⟩ := h
          refine GA.take 16 rfl (by kernel_rfl) (by kernel_rfl) (by kernel_rfl) (fun _ _ _ h => False.elim h) ⟨_, _, rfl, rfl, hc26⟩ rfl (OV.loadT (p := ((p27.1, p27.2 + (x2 : Int).toNat * 3).1, (p27.1, p27.2 + (x2 : Int).toNat * 3).2 + 1)) (cs := T_api_Type.c x32) rfl rfl rfl hr33) ?_
          refine GA.take 17 rfl (by kernel_rfl) (by kernel_rfl) (by kernel_rfl) (fun _ _ _ h => False.elim h) ⟨_, _, rfl, rfl, hc26⟩ rfl (OV.move (v := slv p_b) rfl) ?_
          refine GA.take 18 rfl (by kernel_rfl) (by kernel_rfl) (by kernel_rfl) (fun _ _ _ h => False.elim h) ⟨_, _, rfl, rfl, hc26⟩ rfl (OV.move (v := .int .i64 x2) rfl) ?_
          obtain ⟨p34, ha35, hb36, hc37, hd38, h⟩ := h
          refine GA.take 19 rfl (by kernel_rfl) (by kernel_rfl) (by kernel_rfl) (fun _ _ _ h => False.elim h) ⟨_, _, rfl, rfl, hc26⟩ rfl (OV.indexAddr (s := p_b) rfl rfl rfl rfl ha35 hb36 hc37 hd38) ?_
          refine GA.take 20 rfl (by kernel_rfl) (by kernel_rfl) (by kernel_rfl) (fun _ _ _ h => False.elim h) ⟨_, _, rfl, rfl, hc26⟩ rfl (OV.fieldAddr (p := (p34.1, p34.2 + (x2 : Int).toNat * 3)) rfl rfl) ?_
          obtain ⟨x39, hr40, h⟩ := h
          refine GA.take 21 rfl (by kernel_rfl) (by kernel_rfl) (by kernel_rfl) (fun _ _ _ h => False.elim h) ⟨_, _, rfl, rfl, hc26⟩ rfl (OV.loadT (p := ((p34.1, p34.2 + (x2 : Int).toNat * 3).1, (p34.1, p34.2 + (x2 : Int).toNat * 3).2 + 1)) (cs := T_api_Type.c x39) rfl rfl rfl hr40) ?_
          refine GA.eff 22 rfl (by kernel_rfl) ?_
          refine GL.call h ⟨_, _, rfl, rfl, hc26⟩ rfl ok_ref06_SameType (vs := [.agg (T_api_Type.c x32).toArray, .agg (T_api_Type.c x39).toArray]) rfl ?_
          rintro _ H43 ⟨r42, rfl, h⟩
          obtain ⟨hle41, h⟩ := h
          refine GA.back hle41 ?_
          refine GA.take 23 rfl (by kernel_rfl) (by kernel_rfl) (by kernel_rfl) (fun _ _ _ h => False.elim h) ⟨_, _, rfl, rfl, hc26⟩ rfl (OV.not rfl) ?_
          refine GA.take 24 rfl (by kernel_rfl) (by kernel_rfl) (by kernel_rfl) (fun _ _ _ h => False.elim h) trivial rfl (OV.pickF (b := !(x17 == x24)) (v := .bool (!r42)) rfl hc26 rfl) ?_
          refine GA.done (by kernel_rfl) ?_
          exact GL.jump (fun _ _ h => h) (!r42) h ⟨rfl, rfl, rfl, rfl, trivial⟩
      · intro x7 H8 h
        replace h := hR9 x7 H8 h
        refine GL.nil ?_
        refine GC.cond (b := x7) rfl (fun hc44 => ?_) (fun hc44 => ?_)
        · replace h := And.left h hc44
          refine GC.seq ?_
          refine GC.region ?_
          refine GL.val trivial rfl (OV.assign (v := .bool false) rfl) ?_
          refine GL.nil ?_
          exact GC.ret (fun _ _ hf hs => post_tmp1 rfl rfl hf hs ⟨false, rfl, h⟩)
        · replace h := And.right h hc44
          refine GC.skip_to (fun _ _ h => h) ?_
          refine GC.region ?_
          refine GL.val trivial rfl (OV.move (v := .int .i64 x2) rfl) ?_
          refine GL.val trivial rfl (OV.ibin (v := .int .i64 (w .i64 (x2 + 1))) rfl rfl rfl) ?_
          refine GL.val trivial rfl (OV.assign (v := .int .i64 (w .i64 (x2 + 1))) rfl) ?_
          exact GL.jump (fun _ _ h => h) (w .i64 (x2 + 1)) h ⟨rfl, rfl, rfl, trivial⟩
    · replace h := And.right h hc5
      refine GC.exit_to (fun _ _ h => h) ?_
      refine GC.seq ?_
      refine GC.region ?_
      refine GL.val trivial rfl (OV.assign (v := .bool true) rfl) ?_
      refine GL.nil ?_
      exact GC.ret (fun _ _ hf hs => post_tmp1 rfl rfl hf hs ⟨true, rfl, h⟩)

def sh_ref06_SameRule (C : Ctx) (p_a : T_api_Rule) (p_b : T_api_Rule) (K : Bool → Heap → Prop) (H : Heap) : Prop :=
  nw (T_api_Rule.c p_a) (fun b1 H2 =>
 nw (T_api_Rule.c p_b) (fun b3 H4 =>
 ldS H4 ((b1, 0).1, (b1, 0).2 + 2) fun x5 =>
 ldS H4 ((b3, 0).1, (b3, 0).2 + 2) fun x7 =>
 jn (α := Bool) (fun b9 H19 =>
 jn (α := Bool) (fun b20 H30 =>
 jn (α := Bool) (fun b31 H41 =>
 K b31 H41)
 (fun J32 => ift b20
 (ldL H30 ((b1, 0).1, (b1, 0).2 + 5) fun x35 =>
 ldL H30 ((b3, 0).1, (b3, 0).2 + 5) fun x37 =>
 c_ref06_SameBody C x35 x37 (fun r39 H40 =>
 J32 r39 H40) H30)
 (J32 false H30)))
 (fun J21 => ift b9
 (ldL H19 ((b1, 0).1, (b1, 0).2 + 4) fun x24 =>
 ldL H19 ((b3, 0).1, (b3, 0).2 + 4) fun x26 =>
 c_ref06_SameTexts C x24 x26 (fun r28 H29 =>
 J21 r28 H29) H19)
 (J21 false H19)))
 (fun J10 => ift (x5 == x7)
 (ldL H4 ((b1, 0).1, (b1, 0).2 + 3) fun x13 =>
 ldL H4 ((b3, 0).1, (b3, 0).2 + 3) fun x15 =>
 c_ref06_SameExprs C x13 x15 (fun r17 H18 =>
 J10 r17 H18) H4)
 (J10 false H4))) H2) H

theorem ad_ref06_SameRule (C : Ctx) (p_a : T_api_Rule) (p_b : T_api_Rule) (K : Bool → Heap → Prop) (H : Heap) (h : sh_ref06_SameRule C p_a p_b K H) : c_ref06_SameRule C p_a p_b K H := by
  refine Spec.enter Tryz.func89 rfl Tryz.ntmps89 rfl ?_
  refine GC.sub [(0, .agg (T_api_Rule.c p_a).toArray), (1, .agg (T_api_Rule.c p_b).toArray)] ⟨rfl, rfl, trivial⟩ ?_
  refine GC.seq ?_
  refine GC.region ?_
  refine GL.box (v := .agg (T_api_Rule.c p_a).toArray) (cs := T_api_Rule.c p_a) h trivial rfl rfl rfl ?_
  intro b1 H2 h
  refine GL.box (v := .agg (T_api_Rule.c p_b).toArray) (cs := T_api_Rule.c p_b) h trivial rfl rfl rfl ?_
  intro b3 H4 h
  refine GL.val trivial rfl (OV.assign (v := .bool false) rfl) ?_
  refine GL.nil ?_
  refine GC.seq ?_
  refine GC.region ?_
  refine GL.val trivial rfl (OV.fieldAddr (p := (b1, 0)) rfl rfl) ?_
  obtain ⟨x5, hr6, h⟩ := h
  refine GL.val trivial rfl (OV.load (p := ((b1, 0).1, (b1, 0).2 + 2)) rfl rfl hr6) ?_
  refine GL.val trivial rfl (OV.fieldAddr (p := (b3, 0)) rfl rfl) ?_
  obtain ⟨x7, hr8, h⟩ := h
  refine GL.val trivial rfl (OV.load (p := ((b3, 0).1, (b3, 0).2 + 2)) rfl rfl hr8) ?_
  refine GL.val trivial rfl (OV.sbin (a := x5) (b := x7) (v := .bool (x5 == x7)) rfl rfl rfl) ?_
  refine GL.val trivial rfl (OV.move (v := .bool (x5 == x7)) rfl) ?_
  obtain ⟨J10, h, hR11⟩ := h
  refine GL.cut (α := Bool) 6 J10 (fun b9 => [(16, .bool b9), (2, pv (some (b1, 0))), (3, pv (some (b3, 0)))]) ?_ ?_
  · rcases Bool.eq_false_or_eq_true (x5 == x7) with hc12 | hc12
    · skip
      replace h := And.left h hc12
      refine GL.val ⟨_, _, rfl, rfl, hc12⟩ rfl (OV.fieldAddr (p := (b1, 0)) rfl rfl) ?_
      obtain ⟨x13, hr14, h⟩ := h
      refine GL.val ⟨_, _, rfl, rfl, hc12⟩ rfl (OV.load (p := ((b1, 0).1, (b1, 0).2 + 3)) rfl rfl hr14) ?_
      refine GL.val ⟨_, _, rfl, rfl, hc12⟩ rfl (OV.fieldAddr (p := (b3, 0)) rfl rfl) ?_
      obtain ⟨x15, hr16, h⟩ := h
      refine GL.val ⟨_, _, rfl, rfl, hc12⟩ rfl (OV.load (p := ((b3, 0).1, (b3, 0).2 + 3)) rfl rfl hr16) ?_
      refine GL.call h ⟨_, _, rfl, rfl, hc12⟩ rfl ok_ref06_SameExprs (vs := [slv x13, slv x15]) rfl ?_
      rintro _ H18 ⟨r17, rfl, h⟩
      refine GL.val trivial rfl (OV.pickT (b := x5 == x7) (v := .bool r17) rfl hc12 rfl) ?_
      exact GL.jump (fun _ _ h => h) r17 h ⟨rfl, rfl, rfl, trivial⟩
    · skip
      replace h := And.right h hc12
      refine GL.skip ⟨_, rfl, .inl ⟨_, rfl, hc12⟩⟩ rfl ?_
      refine GL.skip ⟨_, rfl, .inl ⟨_, rfl, hc12⟩⟩ rfl ?_
      refine GL.skip ⟨_, rfl, .inl ⟨_, rfl, hc12⟩⟩ rfl ?_
      refine GL.skip ⟨_, rfl, .inl ⟨_, rfl, hc12⟩⟩ rfl ?_
      refine GL.skip ⟨_, rfl, .inl ⟨_, rfl, hc12⟩⟩ rfl ?_
      refine GL.val trivial rfl (OV.pickF (b := x5 == x7) (v := .bool false) rfl hc12 rfl) ?_
      exact GL.jump (fun _ _ h => h) false h ⟨rfl, rfl, rfl, trivial⟩
  intro b9 H19 h
  replace h := hR11 b9 H19 h
  refine GL.val trivial rfl (OV.move (v := .bool b9) rfl) ?_
  obtain ⟨J21, h, hR22⟩ := h
  refine GL.cut (α := Bool) 6 J21 (fun b20 => [(23, .bool b20), (2, pv (some (b1, 0))), (3, pv (some (b3, 0)))]) ?_ ?_
  · rcases Bool.eq_false_or_eq_true b9 with hc23 | hc23
    · skip
      replace h := And.left h hc23
      refine GL.val ⟨_, _, rfl, rfl, hc23⟩ rfl (OV.fieldAddr (p := (b1, 0)) rfl rfl) ?_
      obtain ⟨x24, hr25, h⟩ := h
      refine GL.val ⟨_, _, rfl, rfl, hc23⟩ rfl (OV.load (p := ((b1, 0).1, (b1, 0).2 + 4)) rfl rfl hr25) ?_
      refine GL.val ⟨_, _, rfl, rfl, hc23⟩ rfl (OV.fieldAddr (p := (b3, 0)) rfl rfl) ?_
      obtain ⟨x26, hr27, h⟩ := h
      refine GL.val ⟨_, _, rfl, rfl, hc23⟩ rfl (OV.load (p := ((b3, 0).1, (b3, 0).2 + 4)) rfl rfl hr27) ?_
      refine GL.call h ⟨_, _, rfl, rfl, hc23⟩ rfl ok_ref06_SameTexts (vs := [slv x24, slv x26]) rfl ?_
      rintro _ H29 ⟨r28, rfl, h⟩
      refine GL.val trivial rfl (OV.pickT (b := b9) (v := .bool r28) rfl hc23 rfl) ?_
      exact GL.jump (fun _ _ h => h) r28 h ⟨rfl, rfl, rfl, trivial⟩
    · skip
      replace h := And.right h hc23
      refine GL.skip ⟨_, rfl, .inl ⟨_, rfl, hc23⟩⟩ rfl ?_
      refine GL.skip ⟨_, rfl, .inl ⟨_, rfl, hc23⟩⟩ rfl ?_
      refine GL.skip ⟨_, rfl, .inl ⟨_, rfl, hc23⟩⟩ rfl ?_
      refine GL.skip ⟨_, rfl, .inl ⟨_, rfl, hc23⟩⟩ rfl ?_
      refine GL.skip ⟨_, rfl, .inl ⟨_, rfl, hc23⟩⟩ rfl ?_
      refine GL.val trivial rfl (OV.pickF (b := b9) (v := .bool false) rfl hc23 rfl) ?_
      exact GL.jump (fun _ _ h => h) false h ⟨rfl, rfl, rfl, trivial⟩
  intro b20 H30 h
  replace h := hR22 b20 H30 h
  refine GL.val trivial rfl (OV.move (v := .bool b20) rfl) ?_
  obtain ⟨J32, h, hR33⟩ := h
  refine GL.cut (α := Bool) 6 J32 (fun b31 => [(30, .bool b31)]) ?_ ?_
  · rcases Bool.eq_false_or_eq_true b20 with hc34 | hc34
    · skip
      replace h := And.left h hc34
      refine GL.val ⟨_, _, rfl, rfl, hc34⟩ rfl (OV.fieldAddr (p := (b1, 0)) rfl rfl) ?_
      obtain ⟨x35, hr36, h⟩ := h
      refine GL.val ⟨_, _, rfl, rfl, hc34⟩ rfl (OV.load (p := ((b1, 0).1, (b1, 0).2 + 5)) rfl rfl hr36) ?_
      refine GL.val ⟨_, _, rfl, rfl, hc34⟩ rfl (OV.fieldAddr (p := (b3, 0)) rfl rfl) ?_
      obtain ⟨x37, hr38, h⟩ := h
      refine GL.val ⟨_, _, rfl, rfl, hc34⟩ rfl (OV.load (p := ((b3, 0).1, (b3, 0).2 + 5)) rfl rfl hr38) ?_
      refine GL.call h ⟨_, _, rfl, rfl, hc34⟩ rfl ok_ref06_SameBody (vs := [slv x35, slv x37]) rfl ?_
      rintro _ H40 ⟨r39, rfl, h⟩
      refine GL.val trivial rfl (OV.pickT (b := b20) (v := .bool r39) rfl hc34 rfl) ?_
      exact GL.jump (fun _ _ h => h) r39 h ⟨rfl, trivial⟩
    · skip
      replace h := And.right h hc34
      refine GL.skip ⟨_, rfl, .inl ⟨_, rfl, hc34⟩⟩ rfl ?_
      refine GL.skip ⟨_, rfl, .inl ⟨_, rfl, hc34⟩⟩ rfl ?_
      refine GL.skip ⟨_, rfl, .inl ⟨_, rfl, hc34⟩⟩ rfl ?_
      refine GL.skip ⟨_, rfl, .inl ⟨_, rfl, hc34⟩⟩ rfl ?_
      refine GL.skip ⟨_, rfl, .inl ⟨_, rfl, hc34⟩⟩ rfl ?_
      refine GL.val trivial rfl (OV.pickF (b := b20) (v := .bool false) rfl hc34 rfl) ?_
      exact GL.jump (fun _ _ h => h) false h ⟨rfl, trivial⟩
  intro b31 H41 h
  replace h := hR33 b31 H41 h
  refine GL.val trivial rfl (OV.assign (v := .bool b31) rfl) ?_
  refine GL.nil ?_
  exact GC.ret (fun _ _ hf hs => post_tmp1 rfl rfl hf hs ⟨b31, rfl, h⟩)

def sh_ref06_SameBody (C : Ctx) (p_a : Sl) (p_b : Sl) (K : Bool → Heap → Prop) (H : Heap) : Prop :=
  ift (((Sl.len p_a : Int) : Int) != (Sl.len p_b : Int))
 (K false H)
 (lp (α := Int) 0 H (fun x2 J3 H4 =>
 ift (decide ((x2 : Int) < (Sl.len p_a : Int)))
 (jn (α := Bool) (fun x7 H8 =>
 ift x7
 (K false H8)
 (J3 (w .i64 (x2 + 1)) H8))
 (fun J6 => dr H4 fun Hs10 =>
 ixa p_a x2 fun p12 =>
 ldI Hs10 .u8 ((p12.1, p12.2 + (x2 : Int).toNat * 5).1, (p12.1, p12.2 + (x2 : Int).toNat * 5).2 + 0) fun x17 =>
 ixa p_b x2 fun p19 =>
 ldI Hs10 .u8 ((p19.1, p19.2 + (x2 : Int).toNat * 5).1, (p19.1, p19.2 + (x2 : Int).toNat * 5).2 + 0) fun x24 =>
 ift ((x17 : Int) != x24)
 (J6 true H4)
 (ixa p_a x2 fun p27 =>
 ldS Hs10 ((p27.1, p27.2 + (x2 : Int).toNat * 5).1, (p27.1, p27.2 + (x2 : Int).toNat * 5).2 + 3) fun x32 =>
 ixa p_b x2 fun p34 =>
 ldS Hs10 ((p34.1, p34.2 + (x2 : Int).toNat * 5).1, (p34.1, p34.2 + (x2 : Int).toNat * 5).2 + 3) fun x39 =>
 ift (!(x32 == x39))
 (J6 true H4)
 (ixa p_a x2 fun p42 =>
 ldL Hs10 ((p42.1, p42.2 + (x2 : Int).toNat * 5).1, (p42.1, p42.2 + (x2 : Int).toNat * 5).2 + 4) fun x47 =>
 ixa p_b x2 fun p49 =>
 ldL Hs10 ((p49.1, p49.2 + (x2 : Int).toNat * 5).1, (p49.1, p49.2 + (x2 : Int).toNat * 5).2 + 4) fun x54 =>
 c_ref06_SameExprs C x47 x54 (fun r57 H58 =>
 Heap.le Hs10 H58 ∧
 J6 (!r57) H58) H4))))
 (K true H4)))

theorem ad_ref06_SameBody (C : Ctx) (p_a : Sl) (p_b : Sl) (K : Bool → Heap → Prop) (H : Heap) (h : sh_ref06_SameBody C p_a p_b K H) : c_ref06_SameBody C p_a p_b K H := by
  refine Spec.enter Tryz.func90 rfl Tryz.ntmps90 rfl ?_
  refine GC.sub [(0, slv p_a), (1, slv p_b)] ⟨rfl, rfl, trivial⟩ ?_
  refine GC.seq ?_
  refine GC.region ?_
  refine GL.val trivial rfl (OV.assign (v := .bool false) rfl) ?_
  refine GL.nil ?_
  refine GC.seq ?_
  refine GC.seq ?_
  refine GC.region ?_
  refine GL.val trivial rfl (OV.move (v := slv p_a) rfl) ?_
  refine GL.val trivial rfl (OV.lenSl (s := p_a) rfl rfl) ?_
  refine GL.val trivial rfl (OV.move (v := slv p_b) rfl) ?_
  refine GL.val trivial rfl (OV.lenSl (s := p_b) rfl rfl) ?_
  refine GL.val trivial rfl (OV.ibin (v := .bool (((Sl.len p_a : Int) : Int) != (Sl.len p_b : Int))) rfl rfl rfl) ?_
  refine GL.nil ?_
  refine GC.cond (b := ((Sl.len p_a : Int) : Int) != (Sl.len p_b : Int)) rfl (fun hc1 => ?_) (fun hc1 => ?_)
  · replace h := And.left h hc1
    refine GC.seq ?_
    refine GC.region ?_
    refine GL.val trivial rfl (OV.assign (v := .bool false) rfl) ?_
    refine GL.nil ?_
    exact GC.ret (fun _ _ hf hs => post_tmp1 rfl rfl hf hs ⟨false, rfl, h⟩)
  · replace h := And.right h hc1
    refine GC.skip ?_
    refine GC.seq ?_
    refine GC.seq ?_
    refine GC.region ?_
    refine GL.val trivial rfl (OV.assign (v := .int .i64 0) rfl) ?_
    refine GL.nil ?_
    refine GC.block ?_
    refine GC.loop (α := Int) h (fun x2 => [(5, .int .i64 x2), (0, slv p_a), (1, slv p_b)]) ⟨rfl, rfl, rfl, trivial⟩ ?_
    intro x2 H4 J3 h
    refine GC.seq ?_
    refine GC.seq ?_
    refine GC.region ?_
    refine GL.val trivial rfl (OV.move (v := .int .i64 x2) rfl) ?_
    refine GL.val trivial rfl (OV.move (v := slv p_a) rfl) ?_
    refine GL.val trivial rfl (OV.lenSl (s := p_a) rfl rfl) ?_
    refine GL.val trivial rfl (OV.ibin (v := .bool (decide ((x2 : Int) < (Sl.len p_a : Int)))) rfl rfl rfl) ?_
    refine GL.nil ?_
    refine GC.cond (b := decide ((x2 : Int) < (Sl.len p_a : Int))) rfl (fun hc5 => ?_) (fun hc5 => ?_)
    · replace h := And.left h hc5
      refine GC.skip ?_
      refine GC.seq ?_
      refine GC.block ?_
      refine GC.seq ?_
      obtain ⟨J6, h, hR9⟩ := h
      refine GC.meet (α := Bool) J6 (fun x7 => [(54, .bool x7), (0, slv p_a), (1, slv p_b), (5, .int .i64 x2)]) ?_ ?_
      · skip
        obtain ⟨Hs10, hle11, h⟩ := h
        refine GC.any (Hs := Hs10) (by kernel_rfl) hle11 ?_
        refine GA.take 0 rfl (by kernel_rfl) (by kernel_rfl) (by kernel_rfl) (fun _ _ _ h => False.elim h) trivial rfl (OV.move (v := slv p_a) rfl) ?_
        refine GA.take 1 rfl (by kernel_rfl) (by kernel_rfl) (by kernel_rfl) (fun _ _ _ h => False.elim h) trivial rfl (OV.move (v := .int .i64 x2) rfl) ?_
        obtain ⟨p12, ha13, hb14, hc15, hd16, h⟩ := h
        refine GA.take 2 rfl (by kernel_rfl) (by kernel_rfl) (by kernel_rfl) (fun _ _ _ h => False.elim h) trivial rfl (OV.indexAddr (s := p_a) rfl rfl rfl rfl ha13 hb14 hc15 hd16) ?_
        refine GA.take 3 rfl (by kernel_rfl) (by kernel_rfl) (by kernel_rfl) (fun _ _ _ h => False.elim h) trivial rfl (OV.fieldAddr (p := (p12.1, p12.2 + (x2 : Int).toNat * 5)) rfl rfl) ?_
        obtain ⟨x17, hr18, h⟩ := h
        refine GA.take 4 rfl (by kernel_rfl) (by kernel_rfl) (by kernel_rfl) (fun _ _ _ h => False.elim h) trivial rfl (OV.load (p := ((p12.1, p12.2 + (x2 : Int).toNat * 5).1, (p12.1, p12.2 + (x2 : Int).toNat * 5).2 + 0)) rfl rfl hr18) ?_
        refine GA.take 5 rfl (by kernel_rfl) (by kernel_rfl) (by kernel_rfl) (fun _ _ _ h => False.elim h) trivial rfl (OV.move (v := slv p_b) rfl) ?_
        refine GA.take 6 rfl (by kernel_rfl) (by kernel_rfl) (by kernel_rfl) (fun _ _ _ h => False.elim h) trivial rfl (OV.move (v := .int .i64 x2) rfl) ?_
        obtain ⟨p19, ha20, hb21, hc22, hd23, h⟩ := h
        refine GA.take 7 rfl (by kernel_rfl) (by kernel_rfl) (by kernel_rfl) (fun _ _ _ h => False.elim h) trivial rfl (OV.indexAddr (s := p_b) rfl rfl rfl rfl ha20 hb21 hc22 hd23) ?_
        refine GA.take 8 rfl (by kernel_rfl) (by kernel_rfl) (by kernel_rfl) (fun _ _ _ h => False.elim h) trivial rfl (OV.fieldAddr (p := (p19.1, p19.2 + (x2 : Int).toNat * 5)) rfl rfl) ?_
        obtain ⟨x24, hr25, h⟩ := h
        refine GA.take 9 rfl (by kernel_rfl) (by kernel_rfl) (by kernel_rfl) (fun _ _ _ h => False.elim h) trivial rfl (OV.load (p := ((p19.1, p19.2 + (x2 : Int).toNat * 5).1, (p19.1, p19.2 + (x2 : Int).toNat * 5).2 + 0)) rfl rfl hr25) ?_
        refine GA.take 10 rfl (by kernel_rfl) (by kernel_rfl) (by kernel_rfl) (fun _ _ _ h => False.elim h) trivial rfl (OV.ibin (v := .bool ((x17 : Int) != x24)) rfl rfl rfl) ?_
        refine GA.take 11 rfl (by kernel_rfl) (by kernel_rfl) (by kernel_rfl) (fun _ _ _ h => False.elim h) trivial rfl (OV.move (v := .bool ((x17 : Int) != x24)) rfl) ?_
        rcases Bool.eq_false_or_eq_true ((x17 : Int) != x24) with hc26 | hc26
        · replace h := And.left h hc26
          refine GA.skip 12 rfl (by kernel_rfl) (by kernel_rfl) (by kernel_rfl) (fun _ _ _ h => False.elim h) ⟨_, rfl, .inl ⟨_, rfl, hc26⟩⟩ rfl ?_
          refine GA.skip 13 rfl (by kernel_rfl) (by kernel_rfl) (by kernel_rfl) (fun _ _ _ h => False.elim h) ⟨_, rfl, .inl ⟨_, rfl, hc26⟩⟩ rfl ?_
          refine GA.skip 14 rfl (by kernel_rfl) (by kernel_rfl) (by kernel_rfl) (fun _ _ _ h => False.elim h) ⟨_, rfl, .inl ⟨_, rfl, hc26⟩⟩ rfl ?_
          refine GA.skip 15 rfl (by kernel_rfl) (by kernel_rfl) (by kernel_rfl) (fun _ _ _ h => False.elim h) ⟨_, rfl, .inl ⟨_, rfl, hc26⟩⟩ rfl ?_
          refine GA.skip 16 rfl (by kernel_rfl) (by kernel_rfl) (by kernel_rfl) (fun _ _ _ h => False.elim h) ⟨_, rfl, .inl ⟨_, rfl, hc26⟩⟩ rfl ?_
          refine GA.skip 17 rfl (by kernel_rfl) (by kernel_rfl) (by kernel_rfl) (fun _ _ _ h => False.elim h) ⟨_, rfl, .inl ⟨_, rfl, hc26⟩⟩ rfl ?_
          refine GA.skip 18 rfl (by kernel_rfl) (by kernel_rfl) (by kernel_rfl) (fun _ _ _ h => False.elim h) ⟨_, rfl, .inl ⟨_, rfl, hc26⟩⟩ rfl ?_
          refine GA.skip 19 rfl (by kernel_rfl) (by kernel_rfl) (by kernel_rfl) (fun _ _ _ h => False.elim h) ⟨_, rfl, .inl ⟨_, rfl, hc26⟩⟩ rfl ?_
          refine GA.skip 20 rfl (by kernel_rfl) (by kernel_rfl) (by kernel_rfl) (fun _ _ _ h => False.elim h) ⟨_, rfl, .inl ⟨_, rfl, hc26⟩⟩ rfl ?_
          refine GA.skip 21 rfl (by kernel_rfl) (by kernel_rfl) (by kernel_rfl) (fun _ _ _ h => False.elim h) ⟨_, rfl, .inl ⟨_, rfl, hc26⟩⟩ rfl ?_
          refine GA.skip 22 rfl (by kernel_rfl) (by kernel_rfl) (by kernel_rfl) (fun _ _ _ h => False.elim h) ⟨_, rfl, .inl ⟨_, rfl, hc26⟩⟩ rfl ?_
          refine GA.take 23 rfl (by kernel_rfl) (by kernel_rfl) (by kernel_rfl) (fun _ _ _ h => False.elim h) trivial rfl (OV.pickT (b := (x17 : Int) != x24) (v := .bool true) rfl hc26 rfl) ?_
          refine GA.take 24 rfl (by kernel_rfl) (by kernel_rfl) (by kernel_rfl) (fun _ _ _ h => False.elim h) trivial rfl (OV.move (v := .bool true) rfl) ?_
          refine GA.skip 25 rfl (by kernel_rfl) (by kernel_rfl) (by kernel_rfl) (fun _ _ _ h => False.elim h) ⟨_, rfl, .inl ⟨_, rfl, rfl⟩⟩ rfl ?_
          refine GA.skip 26 rfl (by kernel_rfl) (by kernel_rfl) (by kernel_rfl) (fun _ _ _ h => False.elim h) ⟨_, rfl, .inl ⟨_, rfl, rfl⟩⟩ rfl ?_
          refine GA.skip 27 rfl (by kernel_rfl) (by kernel_rfl) (by kernel_rfl) (fun _ _ _ h => False.elim h) ⟨_, rfl, .inl ⟨_, rfl, rfl⟩⟩ rfl ?_
          refine GA.skip 28 rfl (by kernel_rfl) (by kernel_rfl) (by kernel_rfl) (fun _ _ _ h => False.elim h) ⟨_, rfl, .inl ⟨_, rfl, rfl⟩⟩ rfl ?_
          refine GA.skip 29 rfl (by kernel_rfl) (by kernel_rfl) (by kernel_rfl) (fun _ _ _ h => False.elim h) ⟨_, rfl, .inl ⟨_, rfl, rfl⟩⟩ rfl ?_
          refine GA.skip 30 rfl (by kernel_rfl) (by kernel_rfl) (by kernel_rfl) (fun _ _ _ h => False.elim h) ⟨_, rfl, .inl ⟨_, rfl, rfl⟩⟩ rfl ?_
          refine GA.skip 31 rfl (by kernel_rfl) (by kernel_rfl) (by kernel_rfl) (fun _ _ _ h => False.elim h) ⟨_, rfl, .inl ⟨_, rfl, rfl⟩⟩ rfl ?_
          refine GA.skip 32 rfl (by kernel_rfl) (by kernel_rfl) (by kernel_rfl) (fun _ _ _ h => False.elim h) ⟨_, rfl, .inl ⟨_, rfl, rfl⟩⟩ rfl ?_
          refine GA.skip 33 rfl (by kernel_rfl) (by kernel_rfl) (by kernel_rfl) (fun _ _ _ h => False.elim h) ⟨_, rfl, .inl ⟨_, rfl, rfl⟩⟩ rfl ?_
          refine GA.skip 34 rfl (by kernel_rfl) (by kernel_rfl) (by kernel_rfl) (fun _ _ _ h => False.elim h) ⟨_, rfl, .inl ⟨_, rfl, rfl⟩⟩ rfl ?_
          refine GA.skip 35 rfl (by kernel_rfl) (by kernel_rfl) (by kernel_rfl) (fun _ _ _ h => False.elim h) ⟨_, rfl, .inl ⟨_, rfl, rfl⟩⟩ rfl ?_
          refine GA.skip 36 rfl (by kernel_rfl) (by kernel_rfl) (by kernel_rfl) (fun _ _ _ h => False.elim h) ⟨_, rfl, .inl ⟨_, rfl, rfl⟩⟩ rfl ?_
          refine GA.take 37 rfl (by kernel_rfl) (by kernel_rfl) (by kernel_rfl) (fun _ _ _ h => False.elim h) trivial rfl (OV.pickT (b := true) (v := .bool true) rfl rfl rfl) ?_
          refine GA.done (by kernel_rfl) ?_
          exact GL.jump (fun _ _ h => h) true h ⟨rfl, rfl, rfl, rfl, trivial⟩
        · replace h := And.right h hc26
          refine GA.take 12 rfl (by kernel_rfl) (by kernel_rfl) (by kernel_rfl) (fun _ _ _ h => False.elim h) ⟨_, _, rfl, rfl, hc26⟩ rfl (OV.move (v := slv p_a) rfl) ?_
          refine GA.take 13 rfl (by kernel_rfl) (by kernel_rfl) (by kernel_rfl) (fun _ _ _ h => False.elim h) ⟨_, _, rfl, rfl, hc26⟩ rfl (OV.move (v := .int .i64 x2) rfl) ?_
          obtain ⟨p27, ha28, hb29, hc30, hd31, h⟩ := h
          refine GA.take 14 rfl (by kernel_rfl) (by kernel_rfl) (by kernel_rfl) (fun _ _ _ h => False.elim h) ⟨_, _, rfl, rfl, hc26⟩ rfl (OV.indexAddr (s := p_a) rfl rfl rfl rfl ha28 hb29 hc30 hd31) ?_
          refine GA.take 15 rfl (by kernel_rfl) (by kernel_rfl) (by kernel_rfl) (fun _ _ _ h => False.elim h) ⟨_, _, rfl, rfl, hc26⟩ rfl (OV.fieldAddr (p := (p27.1, p27.2 + (x2 : Int).toNat * 5)) rfl rfl) ?_
          obtain ⟨x32, hr33, h⟩ := h
          refine GA.take 16 rfl (by kernel_rfl) (by kernel_rfl) (by kernel_rfl) (fun _ _ _ h => False.elim h) ⟨_, _, rfl, rfl, hc26⟩ rfl (OV.load (p := ((p27.1, p27.2 + (x2 : Int).toNat * 5).1, (p27.1, p27.2 + (x2 : Int).toNat * 5).2 + 3)) rfl rfl hr33) ?_
          refine GA.take 17 rfl (by kernel_rfl) (by kernel_rfl) (by kernel_rfl) (fun _ _ _ h => False.elim h) ⟨_, _, rfl, rfl, hc26⟩ rfl (OV.move (v := slv p_b) rfl) ?_
          refine GA.take 18 rfl (by kernel_rfl) (by kernel_rfl) (by kernel_rfl) (fun _ _ _ h => False.elim h) ⟨_, _, rfl, rfl, hc26⟩ rfl (OV.move (v := .int .i64 x2) rfl) ?_
          obtain ⟨p34, ha35, hb36, hc37, hd38, h⟩ := h
          refine GA.take 19 rfl (by kernel_rfl) (by kernel_rfl) (by kernel_rfl) (fun _ _ _ h => False.elim h) ⟨_, _, rfl, rfl, hc26⟩ rfl (OV.indexAddr (s := p_b) rfl rfl rfl rfl ha35 hb36 hc37 hd38) ?_
          refine GA.take 20 rfl (by kernel_rfl) (by kernel_rfl) (by kernel_rfl) (fun _ _ _ h => False.elim h) ⟨_, _, rfl, rfl, hc26⟩ rfl (OV.fieldAddr (p := (p34.1, p34.2 + (x2 : Int).toNat * 5)) rfl rfl) ?_
          obtain ⟨x39, hr40, h⟩ := h
          refine GA.take 21 rfl (by kernel_rfl) (by kernel_rfl) (by kernel_rfl) (fun _ _ _ h => False.elim h) ⟨_, _, rfl, rfl, hc26⟩ rfl (OV.load (p := ((p34.1, p34.2 + (x2 : Int).toNat * 5).1, (p34.1, p34.2 + (x2 : Int).toNat * 5).2 + 3)) rfl rfl hr40) ?_
          refine GA.take 22 rfl (by kernel_rfl) (by kernel_rfl) (by kernel_rfl) (fun _ _ _ h => False.elim h) ⟨_, _, rfl, rfl, hc26⟩ rfl (OV.sbin (a := x32) (b := x39) (v := .bool (!(x32 == x39))) rfl rfl rfl) ?_
          refine GA.take 23 rfl (by kernel_rfl) (by kernel_rfl) (by kernel_rfl) (fun _ _ _ h => False.elim h) trivial rfl (OV.pickF (b := (x17 : Int) != x24) (v := .bool (!(x32 == x39))) rfl hc26 rfl) ?_
          refine GA.take 24 rfl (by kernel_rfl) (by kernel_rfl) (by kernel_rfl) (fun _ _ _ h => False.elim h) trivial rfl (OV.move (v := .bool (!(x32 == x39))) rfl) ?_
          rcases Bool.eq_false_or_eq_true (!(x32 == x39)) with hc41 | hc41
          · replace h := And.left h hc41
            refine GA.skip 25 rfl (by kernel_rfl) (by kernel_rfl) (by kernel_rfl) (fun _ _ _ h => False.elim h) ⟨_, rfl, .inl ⟨_, rfl, hc41⟩⟩ rfl ?_
            refine GA.skip 26 rfl (by kernel_rfl) (by kernel_rfl) (by kernel_rfl) (fun _ _ _ h => False.elim h) ⟨_, rfl, .inl ⟨_, rfl, hc41⟩⟩ rfl ?_
            refine GA.skip 27 rfl (by kernel_rfl) (by kernel_rfl) (by kernel_rfl) (fun _ _ _ h => False.elim h) ⟨_, rfl, .inl ⟨_, rfl, hc41⟩⟩ rfl ?_
            refine GA.skip 28 rfl (by kernel_rfl) (by kernel_rfl) (by kernel_rfl) (fun _ _ _ h => False.elim h) ⟨_, rfl, .inl ⟨_, rfl, hc41⟩⟩ rfl ?_
            refine GA.skip 29 rfl (by kernel_rfl) (by kernel_rfl) (by kernel_rfl) (fun _ _ _ h => False.elim h) ⟨_, rfl, .inl ⟨_, rfl, hc41⟩⟩ rfl ?_
            refine GA.skip 30 rfl (by kernel_rfl) (by kernel_rfl) (by kernel_rfl) (fun _ _ _ h => False.elim h) ⟨_, rfl, .inl ⟨_, rfl, hc41⟩⟩ rfl ?_
            refine GA.skip 31 rfl (by kernel_rfl) (by kernel_rfl) (by kernel_rfl) (fun _ _ _ h => False.elim h) ⟨_, rfl, .inl ⟨_, rfl, hc41⟩⟩ rfl ?_
            refine GA.skip 32 rfl (by kernel_rfl) (by kernel_rfl) (by kernel_rfl) (fun _ _ _ h => False.elim h) ⟨_, rfl, .inl ⟨_, rfl, hc41⟩⟩ rfl ?_
            refine GA.skip 33 rfl (by kernel_rfl) (by kernel_rfl) (by kernel_rfl) (fun _ _ _ h => False.elim h) ⟨_, rfl, .inl ⟨_, rfl, hc41⟩⟩ rfl ?_
            refine GA.skip 34 rfl (by kernel_rfl) (by kernel_rfl) (by kernel_rfl) (fun _ _ _ h => False.elim h) ⟨_, rfl, .inl ⟨_, rfl, hc41⟩⟩ rfl ?_
            refine GA.skip 35 rfl (by kernel_rfl) (by kernel_rfl) (by kernel_rfl) (fun _ _ _ h => False.elim h) ⟨_, rfl, .inl ⟨_, rfl, hc41⟩⟩ rfl ?_
            refine GA.skip 36 rfl (by kernel_rfl) (by kernel_rfl) (by kernel_rfl) (fun _ _ _ h => False.elim h) ⟨_, rfl, .inl ⟨_, rfl, hc41⟩⟩ rfl ?_
            refine GA.take 37 rfl (by kernel_rfl) (by kernel_rfl) (by kernel_rfl) (fun _ _ _ h => False.elim h) trivial rfl (OV.pickT (b := !(x32 == x39)) (v := .bool true) rfl hc41 rfl) ?_
            refine GA.done (by kernel_rfl) ?_
            exact GL.jump (fun _ _ h => h) true h ⟨rfl, rfl, rfl, rfl, trivial⟩
          · replace h := And.right h hc41
            refine GA.take 25 rfl (by kernel_rfl) (by kernel_rfl) (by kernel_rfl) (fun _ _ _ h => False.elim h) ⟨_, _, rfl, rfl, hc41⟩ rfl (OV.move (v := slv p_a) rfl) ?_
            refine GA.take 26 rfl (by kernel_rfl) (by kernel_rfl) (by kernel_rfl) (fun _ _ _ h => False.elim h) ⟨_, _, rfl, rfl, hc41⟩ rfl (OV.move (v := .int .i64 x2) rfl) ?_
            obtain ⟨p42, ha43, hb44, hc45, hd46, h⟩ := h
            refine GA.take 27 rfl (by kernel_rfl) (by kernel_rfl) (by kernel_rfl) (fun _ _ _ h => False.elim h) ⟨_, _, rfl, rfl, hc41⟩ rfl (OV.indexAddr (s := p_a) rfl rfl rfl rfl ha43 hb44 hc45 hd46) ?_
            refine GA.take 28 rfl (by kernel_rfl) (by kernel_rfl) (by kernel_rfl) (fun _ _ _ h => False.elim h) ⟨_, _, rfl, rfl, hc41⟩ rfl (OV.fieldAddr (p := (p42.1, p42.2 + (x2 : Int).toNat * 5)) rfl rfl) ?_
            obtain ⟨x47, hr48, h⟩ := h
            refine GA.take 29 rfl (by kernel_rfl) (by kernel_rfl) (by kernel_rfl) (fun _ _ _ h => False.elim h) ⟨_, _, rfl, rfl, hc41⟩ rfl (OV.load (p := ((p42.1, p42.2 + (x2 : Int).toNat * 5).1, (p42.1, p42.2 + (x2 : Int).toNat * 5).2 + 4)) rfl rfl hr48) ?_
            refine GA.take 30 rfl (by kernel_rfl) (by kernel_rfl) (by kernel_rfl) (fun _ _ _ h => False.elim h) ⟨_, _, rfl, rfl, hc41⟩ rfl (OV.move (v := slv p_b) rfl) ?_
            refine GA.take 31 rfl (by kernel_rfl) (by kernel_rfl) (by kernel_rfl) (fun _ _ _ h => False.elim h) ⟨_, _, rfl, rfl, hc41⟩ rfl (OV.move (v := .int .i64 x2) rfl) ?_
            obtain ⟨p49, ha50, hb51, hc52, hd53, h⟩ := h
            refine GA.take 32 rfl (by kernel_rfl) (by kernel_rfl) (by kernel_rfl) (fun _ _ _ h => False.elim h) ⟨_, _, rfl, rfl, hc41⟩ rfl (OV.indexAddr (s := p_b) rfl rfl rfl rfl ha50 hb51 hc52 hd53) ?_
            refine GA.take 33 rfl (by kernel_rfl) (by kernel_rfl) (by kernel_rfl) (fun _ _ _ h => False.elim h) ⟨_, _, rfl, rfl, hc41⟩ rfl (OV.fieldAddr (p := (p49.1, p49.2 + (x2 : Int).toNat * 5)) rfl rfl) ?_
            obtain ⟨x54, hr55, h⟩ := h
            refine GA.take 34 rfl (by kernel_rfl) (by kernel_rfl) (by kernel_rfl) (fun _ _ _ h => False.elim h) ⟨_, _, rfl, rfl, hc41⟩ rfl (OV.load (p := ((p49.1, p49.2 + (x2 : Int).toNat * 5).1, (p49.1, p49.2 + (x2 : Int).toNat * 5).2 + 4)) rfl rfl hr55) ?_
            refine GA.eff 35 rfl (by kernel_rfl) ?_
            refine GL.call h ⟨_, _, rfl, rfl, hc41⟩ rfl ok_ref06_SameExprs (vs := [slv x47, slv x54]) rfl ?_
            rintro _ H58 ⟨r57, rfl, h⟩
            obtain ⟨hle56, h⟩ := h
            refine GA.back hle56 ?_
            refine GA.take 36 rfl (by kernel_rfl) (by kernel_rfl) (by kernel_rfl) (fun _ _ _ h => False.elim h) ⟨_, _, rfl, rfl, hc41⟩ rfl (OV.not rfl) ?_
            refine GA.take 37 rfl (by kernel_rfl) (by kernel_rfl) (by kernel_rfl) (fun _ _ _ h => False.elim h) trivial rfl (OV.pickF (b := !(x32 == x39)) (v := .bool (!r57)) rfl hc41 rfl) ?_
            refine GA.done (by kernel_rfl) ?_
            exact GL.jump (fun _ _ h => h) (!r57) h ⟨rfl, rfl, rfl, rfl, trivial⟩
      · intro x7 H8 h
        replace h := hR9 x7 H8 h
        refine GL.nil ?_
        refine GC.cond (b := x7) rfl (fun hc59 => ?_) (fun hc59 => ?_)
        · replace h := And.left h hc59
          refine GC.seq ?_
          refine GC.region ?_
          refine GL.val trivial rfl (OV.assign (v := .bool false) rfl) ?_
          refine GL.nil ?_
          exact GC.ret (fun _ _ hf hs => post_tmp1 rfl rfl hf hs ⟨false, rfl, h⟩)
        · replace h := And.right h hc59
          refine GC.skip_to (fun _ _ h => h) ?_
          refine GC.region ?_
          refine GL.val trivial rfl (OV.move (v := .int .i64 x2) rfl) ?_
          refine GL.val trivial rfl (OV.ibin (v := .int .i64 (w .i64 (x2 + 1))) rfl rfl rfl) ?_
          refine GL.val trivial rfl (OV.assign (v := .int .i64 (w .i64 (x2 + 1))) rfl) ?_
          exact GL.jump (fun _ _ h => h) (w .i64 (x2 + 1)) h ⟨rfl, rfl, rfl, trivial⟩
    · replace h := And.right h hc5
      refine GC.exit_to (fun _ _ h => h) ?_
      refine GC.seq ?_
      refine GC.region ?_
      refine GL.val trivial rfl (OV.assign (v := .bool true) rfl) ?_
      refine GL.nil ?_
      exact GC.ret (fun _ _ hf hs => post_tmp1 rfl rfl hf hs ⟨true, rfl, h⟩)

def sh_ref02_Same (C : Ctx) (p_a : T_api_Value) (p_b : T_api_Value) (K : Bool → Heap → Prop) (H : Heap) : Prop :=
  nw (T_api_Value.c p_a) (fun b1 H2 =>
 nw (T_api_Value.c p_b) (fun b3 H4 =>
 ldI H4 .u8 ((b1, 0).1, (b1, 0).2 + 0) fun x5 =>
 ldI H4 .u8 ((b3, 0).1, (b3, 0).2 + 0) fun x7 =>
 jn (α := Bool) (fun b9 H17 =>
 jn (α := Bool) (fun b18 H26 =>
 jn (α := Bool) (fun b27 H37 =>
 K b27 H37)
 (fun J28 => ift b18
 (ldL H26 ((b1, 0).1, (b1, 0).2 + 3) fun x31 =>
 ldL H26 ((b3, 0).1, (b3, 0).2 + 3) fun x33 =>
 c_ref02_SameRow C x31 x33 (fun r35 H36 =>
 J28 r35 H36) H26)
 (J28 false H26)))
 (fun J19 => ift b9
 (ldS H17 ((b1, 0).1, (b1, 0).2 + 2) fun x22 =>
 ldS H17 ((b3, 0).1, (b3, 0).2 + 2) fun x24 =>
 J19 (x22 == x24) H17)
 (J19 false H17)))
 (fun J10 => ift ((x5 : Int) == x7)
 (ldI H4 .i64 ((b1, 0).1, (b1, 0).2 + 1) fun x13 =>
 ldI H4 .i64 ((b3, 0).1, (b3, 0).2 + 1) fun x15 =>
 J10 ((x13 : Int) == x15) H4)
 (J10 false H4))) H2) H

theorem ad_ref02_Same (C : Ctx) (p_a : T_api_Value) (p_b : T_api_Value) (K : Bool → Heap → Prop) (H : Heap) (h : sh_ref02_Same C p_a p_b K H) : c_ref02_Same C p_a p_b K H := by
  refine Spec.enter Tryz.func94 rfl Tryz.ntmps94 rfl ?_
  refine GC.sub [(0, .agg (T_api_Value.c p_a).toArray), (1, .agg (T_api_Value.c p_b).toArray)] ⟨rfl, rfl, trivial⟩ ?_
  refine GC.seq ?_
  refine GC.region ?_
  refine GL.box (v := .agg (T_api_Value.c p_a).toArray) (cs := T_api_Value.c p_a) h trivial rfl rfl rfl ?_
  intro b1 H2 h
  refine GL.box (v := .agg (T_api_Value.c p_b).toArray) (cs := T_api_Value.c p_b) h trivial rfl rfl rfl ?_
  intro b3 H4 h
  refine GL.val trivial rfl (OV.assign (v := .bool false) rfl) ?_
  refine GL.nil ?_
  refine GC.seq ?_
  refine GC.region ?_
  refine GL.val trivial rfl (OV.fieldAddr (p := (b1, 0)) rfl rfl) ?_
  obtain ⟨x5, hr6, h⟩ := h
  refine GL.val trivial rfl (OV.load (p := ((b1, 0).1, (b1, 0).2 + 0)) rfl rfl hr6) ?_
  refine GL.val trivial rfl (OV.fieldAddr (p := (b3, 0)) rfl rfl) ?_
  obtain ⟨x7, hr8, h⟩ := h
  refine GL.val trivial rfl (OV.load (p := ((b3, 0).1, (b3, 0).2 + 0)) rfl rfl hr8) ?_
  refine GL.val trivial rfl (OV.ibin (v := .bool ((x5 : Int) == x7)) rfl rfl rfl) ?_
  refine GL.val trivial rfl (OV.move (v := .bool ((x5 : Int) == x7)) rfl) ?_
  obtain ⟨J10, h, hR11⟩ := h
  refine GL.cut (α := Bool) 6 J10 (fun b9 => [(16, .bool b9), (2, pv (some (b1, 0))), (3, pv (some (b3, 0)))]) ?_ ?_
  · rcases Bool.eq_false_or_eq_true ((x5 : Int) == x7) with hc12 | hc12
    · skip
      replace h := And.left h hc12
      refine GL.val ⟨_, _, rfl, rfl, hc12⟩ rfl (OV.fieldAddr (p := (b1, 0)) rfl rfl) ?_
      obtain ⟨x13, hr14, h⟩ := h
      refine GL.val ⟨_, _, rfl, rfl, hc12⟩ rfl (OV.load (p := ((b1, 0).1, (b1, 0).2 + 1)) rfl rfl hr14) ?_
      refine GL.val ⟨_, _, rfl, rfl, hc12⟩ rfl (OV.fieldAddr (p := (b3, 0)) rfl rfl) ?_
      obtain ⟨x15, hr16, h⟩ := h
      refine GL.val ⟨_, _, rfl, rfl, hc12⟩ rfl (OV.load (p := ((b3, 0).1, (b3, 0).2 + 1)) rfl rfl hr16) ?_
      refine GL.val ⟨_, _, rfl, rfl, hc12⟩ rfl (OV.ibin (v := .bool ((x13 : Int) == x15)) rfl rfl rfl) ?_
      refine GL.val trivial rfl (OV.pickT (b := (x5 : Int) == x7) (v := .bool ((x13 : Int) == x15)) rfl hc12 rfl) ?_
      exact GL.jump (fun _ _ h => h) ((x13 : Int) == x15) h ⟨rfl, rfl, rfl, trivial⟩
    · skip
      replace h := And.right h hc12
      refine GL.skip ⟨_, rfl, .inl ⟨_, rfl, hc12⟩⟩ rfl ?_
      refine GL.skip ⟨_, rfl, .inl ⟨_, rfl, hc12⟩⟩ rfl ?_
      refine GL.skip ⟨_, rfl, .inl ⟨_, rfl, hc12⟩⟩ rfl ?_
      refine GL.skip ⟨_, rfl, .inl ⟨_, rfl, hc12⟩⟩ rfl ?_
      refine GL.skip ⟨_, rfl, .inl ⟨_, rfl, hc12⟩⟩ rfl ?_
      refine GL.val trivial rfl (OV.pickF (b := (x5 : Int) == x7) (v := .bool false) rfl hc12 rfl) ?_
      exact GL.jump (fun _ _ h => h) false h ⟨rfl, rfl, rfl, trivial⟩
  intro b9 H17 h
  replace h := hR11 b9 H17 h
  refine GL.val trivial rfl (OV.move (v := .bool b9) rfl) ?_
  obtain ⟨J19, h, hR20⟩ := h
  refine GL.cut (α := Bool) 6 J19 (fun b18 => [(23, .bool b18), (2, pv (some (b1, 0))), (3, pv (some (b3, 0)))]) ?_ ?_
  · rcases Bool.eq_false_or_eq_true b9 with hc21 | hc21
    · skip
      replace h := And.left h hc21
      refine GL.val ⟨_, _, rfl, rfl, hc21⟩ rfl (OV.fieldAddr (p := (b1, 0)) rfl rfl) ?_
      obtain ⟨x22, hr23, h⟩ := h
      refine GL.val ⟨_, _, rfl, rfl, hc21⟩ rfl (OV.load (p := ((b1, 0).1, (b1, 0).2 + 2)) rfl rfl hr23) ?_
      refine GL.val ⟨_, _, rfl, rfl, hc21⟩ rfl (OV.fieldAddr (p := (b3, 0)) rfl rfl) ?_
      obtain ⟨x24, hr25, h⟩ := h
      refine GL.val ⟨_, _, rfl, rfl, hc21⟩ rfl (OV.load (p := ((b3, 0).1, (b3, 0).2 + 2)) rfl rfl hr25) ?_
      refine GL.val ⟨_, _, rfl, rfl, hc21⟩ rfl (OV.sbin (a := x22) (b := x24) (v := .bool (x22 == x24)) rfl rfl rfl) ?_
      refine GL.val trivial rfl (OV.pickT (b := b9) (v := .bool (x22 == x24)) rfl hc21 rfl) ?_
      exact GL.jump (fun _ _ h => h) (x22 == x24) h ⟨rfl, rfl, rfl, trivial⟩
    · skip
      replace h := And.right h hc21
      refine GL.skip ⟨_, rfl, .inl ⟨_, rfl, hc21⟩⟩ rfl ?_
      refine GL.skip ⟨_, rfl, .inl ⟨_, rfl, hc21⟩⟩ rfl ?_
      refine GL.skip ⟨_, rfl, .inl ⟨_, rfl, hc21⟩⟩ rfl ?_
      refine GL.skip ⟨_, rfl, .inl ⟨_, rfl, hc21⟩⟩ rfl ?_
      refine GL.skip ⟨_, rfl, .inl ⟨_, rfl, hc21⟩⟩ rfl ?_
      refine GL.val trivial rfl (OV.pickF (b := b9) (v := .bool false) rfl hc21 rfl) ?_
      exact GL.jump (fun _ _ h => h) false h ⟨rfl, rfl, rfl, trivial⟩
  intro b18 H26 h
  replace h := hR20 b18 H26 h
  refine GL.val trivial rfl (OV.move (v := .bool b18) rfl) ?_
  obtain ⟨J28, h, hR29⟩ := h
  refine GL.cut (α := Bool) 6 J28 (fun b27 => [(30, .bool b27)]) ?_ ?_
  · rcases Bool.eq_false_or_eq_true b18 with hc30 | hc30
    · skip
      replace h := And.left h hc30
      refine GL.val ⟨_, _, rfl, rfl, hc30⟩ rfl (OV.fieldAddr (p := (b1, 0)) rfl rfl) ?_
      obtain ⟨x31, hr32, h⟩ := h
      refine GL.val ⟨_, _, rfl, rfl, hc30⟩ rfl (OV.load (p := ((b1, 0).1, (b1, 0).2 + 3)) rfl rfl hr32) ?_
      refine GL.val ⟨_, _, rfl, rfl, hc30⟩ rfl (OV.fieldAddr (p := (b3, 0)) rfl rfl) ?_
      obtain ⟨x33, hr34, h⟩ := h
      refine GL.val ⟨_, _, rfl, rfl, hc30⟩ rfl (OV.load (p := ((b3, 0).1, (b3, 0).2 + 3)) rfl rfl hr34) ?_
      refine GL.call h ⟨_, _, rfl, rfl, hc30⟩ rfl ok_ref02_SameRow (vs := [slv x31, slv x33]) rfl ?_
      rintro _ H36 ⟨r35, rfl, h⟩
      refine GL.val trivial rfl (OV.pickT (b := b18) (v := .bool r35) rfl hc30 rfl) ?_
      exact GL.jump (fun _ _ h => h) r35 h ⟨rfl, trivial⟩
    · skip
      replace h := And.right h hc30
      refine GL.skip ⟨_, rfl, .inl ⟨_, rfl, hc30⟩⟩ rfl ?_
      refine GL.skip ⟨_, rfl, .inl ⟨_, rfl, hc30⟩⟩ rfl ?_
      refine GL.skip ⟨_, rfl, .inl ⟨_, rfl, hc30⟩⟩ rfl ?_
      refine GL.skip ⟨_, rfl, .inl ⟨_, rfl, hc30⟩⟩ rfl ?_
      refine GL.skip ⟨_, rfl, .inl ⟨_, rfl, hc30⟩⟩ rfl ?_
      refine GL.val trivial rfl (OV.pickF (b := b18) (v := .bool false) rfl hc30 rfl) ?_
      exact GL.jump (fun _ _ h => h) false h ⟨rfl, trivial⟩
  intro b27 H37 h
  replace h := hR29 b27 H37 h
  refine GL.val trivial rfl (OV.assign (v := .bool b27) rfl) ?_
  refine GL.nil ?_
  exact GC.ret (fun _ _ hf hs => post_tmp1 rfl rfl hf hs ⟨b27, rfl, h⟩)

def sh_ref06_SameExprs (C : Ctx) (p_a : Sl) (p_b : Sl) (K : Bool → Heap → Prop) (H : Heap) : Prop :=
  ift (((Sl.len p_a : Int) : Int) != (Sl.len p_b : Int))
 (K false H)
 (lp (α := Int) 0 H (fun x2 J3 H4 =>
 ift (decide ((x2 : Int) < (Sl.len p_a : Int)))
 (dr H4 fun Hs6 =>
 ixa p_a x2 fun p8 =>
 ldT Hs6 T_api_Expr.c (p8.1, p8.2 + (x2 : Int).toNat * 9) fun x13 =>
 ixa p_b x2 fun p15 =>
 ldT Hs6 T_api_Expr.c (p15.1, p15.2 + (x2 : Int).toNat * 9) fun x20 =>
 c_ref06_SameExpr C x13 x20 (fun r23 H24 =>
 Heap.le Hs6 H24 ∧
 ift (!r23)
 (K false H24)
 (J3 (w .i64 (x2 + 1)) H24)) H4)
 (K true H4)))

theorem ad_ref06_SameExprs (C : Ctx) (p_a : Sl) (p_b : Sl) (K : Bool → Heap → Prop) (H : Heap) (h : sh_ref06_SameExprs C p_a p_b K H) : c_ref06_SameExprs C p_a p_b K H := by
  refine Spec.enter Tryz.func95 rfl Tryz.ntmps95 rfl ?_
  refine GC.sub [(0, slv p_a), (1, slv p_b)] ⟨rfl, rfl, trivial⟩ ?_
  refine GC.seq ?_
  refine GC.region ?_
  refine GL.val trivial rfl (OV.assign (v := .bool false) rfl) ?_
  refine GL.nil ?_
  refine GC.seq ?_
  refine GC.seq ?_
  refine GC.region ?_
  refine GL.val trivial rfl (OV.move (v := slv p_a) rfl) ?_
  refine GL.val trivial rfl (OV.lenSl (s := p_a) rfl rfl) ?_
  refine GL.val trivial rfl (OV.move (v := slv p_b) rfl) ?_
  refine GL.val trivial rfl (OV.lenSl (s := p_b) rfl rfl) ?_
  refine GL.val trivial rfl (OV.ibin (v := .bool (((Sl.len p_a : Int) : Int) != (Sl.len p_b : Int))) rfl rfl rfl) ?_
  refine GL.nil ?_
  refine GC.cond (b := ((Sl.len p_a : Int) : Int) != (Sl.len p_b : Int)) rfl (fun hc1 => ?_) (fun hc1 => ?_)
  · replace h := And.left h hc1
    refine GC.seq ?_
    refine GC.region ?_
    refine GL.val trivial rfl (OV.assign (v := .bool false) rfl) ?_
    refine GL.nil ?_
    exact GC.ret (fun _ _ hf hs => post_tmp1 rfl rfl hf hs ⟨false, rfl, h⟩)
  · replace h := And.right h hc1
    refine GC.skip ?_
    refine GC.seq ?_
    refine GC.seq ?_
    refine GC.region ?_
    refine GL.val trivial rfl (OV.assign (v := .int .i64 0) rfl) ?_
    refine GL.nil ?_
    refine GC.block ?_
    refine GC.loop (α := Int) h (fun x2 => [(5, .int .i64 x2), (0, slv p_a), (1, slv p_b)]) ⟨rfl, rfl, rfl, trivial⟩ ?_
    intro x2 H4 J3 h
    refine GC.seq ?_
    refine GC.seq ?_
    refine GC.region ?_
    refine GL.val trivial rfl (OV.move (v := .int .i64 x2) rfl) ?_
    refine GL.val trivial rfl (OV.move (v := slv p_a) rfl) ?_
    refine GL.val trivial rfl (OV.lenSl (s := p_a) rfl rfl) ?_
    refine GL.val trivial rfl (OV.ibin (v := .bool (decide ((x2 : Int) < (Sl.len p_a : Int)))) rfl rfl rfl) ?_
    refine GL.nil ?_
    refine GC.cond (b := decide ((x2 : Int) < (Sl.len p_a : Int))) rfl (fun hc5 => ?_) (fun hc5 => ?_)
    · replace h := And.left h hc5
      refine GC.skip ?_
      refine GC.seq ?_
      refine GC.block ?_
      refine GC.seq ?_
      obtain ⟨Hs6, hle7, h⟩ := h
      refine GC.any (Hs := Hs6) (by kernel_rfl) hle7 ?_
      refine GA.take 0 rfl (by kernel_rfl) (by kernel_rfl) (by kernel_rfl) (fun _ _ _ h => False.elim h) trivial rfl (OV.move (v := slv p_a) rfl) ?_
      refine GA.take 1 rfl (by kernel_rfl) (by kernel_rfl) (by kernel_rfl) (fun _ _ _ h => False.elim h) trivial rfl (OV.move (v := .int .i64 x2) rfl) ?_
      obtain ⟨p8, ha9, hb10, hc11, hd12, h⟩ := h
      refine GA.take 2 rfl (by kernel_rfl) (by kernel_rfl) (by kernel_rfl) (fun _ _ _ h => False.elim h) trivial rfl (OV.indexAddr (s := p_a) rfl rfl rfl rfl ha9 hb10 hc11 hd12) ?_
      obtain ⟨x13, hr14, h⟩ := h
      refine GA.take 3 rfl (by kernel_rfl) (by kernel_rfl) (by kernel_rfl) (fun _ _ _ h => False.elim h) trivial rfl (OV.loadT (p := (p8.1, p8.2 + (x2 : Int).toNat * 9)) (cs := T_api_Expr.c x13) rfl rfl rfl hr14) ?_
      refine GA.take 4 rfl (by kernel_rfl) (by kernel_rfl) (by kernel_rfl) (fun _ _ _ h => False.elim h) trivial rfl (OV.move (v := slv p_b) rfl) ?_
      refine GA.take 5 rfl (by kernel_rfl) (by kernel_rfl) (by kernel_rfl) (fun _ _ _ h => False.elim h) trivial rfl (OV.move (v := .int .i64 x2) rfl) ?_
      obtain ⟨p15, ha16, hb17, hc18, hd19, h⟩ := h
      refine GA.take 6 rfl (by kernel_rfl) (by kernel_rfl) (by kernel_rfl) (fun _ _ _ h => False.elim h) trivial rfl (OV.indexAddr (s := p_b) rfl rfl rfl rfl ha16 hb17 hc18 hd19) ?_
      obtain ⟨x20, hr21, h⟩ := h
      refine GA.take 7 rfl (by kernel_rfl) (by kernel_rfl) (by kernel_rfl) (fun _ _ _ h => False.elim h) trivial rfl (OV.loadT (p := (p15.1, p15.2 + (x2 : Int).toNat * 9)) (cs := T_api_Expr.c x20) rfl rfl rfl hr21) ?_
      refine GA.eff 8 rfl (by kernel_rfl) ?_
      refine GL.call h trivial rfl ok_ref06_SameExpr (vs := [.agg (T_api_Expr.c x13).toArray, .agg (T_api_Expr.c x20).toArray]) rfl ?_
      rintro _ H24 ⟨r23, rfl, h⟩
      obtain ⟨hle22, h⟩ := h
      refine GA.back hle22 ?_
      refine GA.take 9 rfl (by kernel_rfl) (by kernel_rfl) (by kernel_rfl) (fun _ _ _ h => False.elim h) trivial rfl (OV.not rfl) ?_
      refine GA.done (by kernel_rfl) ?_
      refine GL.nil ?_
      refine GC.cond (b := !r23) rfl (fun hc25 => ?_) (fun hc25 => ?_)
      · replace h := And.left h hc25
        refine GC.seq ?_
        refine GC.region ?_
        refine GL.val trivial rfl (OV.assign (v := .bool false) rfl) ?_
        refine GL.nil ?_
        exact GC.ret (fun _ _ hf hs => post_tmp1 rfl rfl hf hs ⟨false, rfl, h⟩)
      · replace h := And.right h hc25
        refine GC.skip_to (fun _ _ h => h) ?_
        refine GC.region ?_
        refine GL.val trivial rfl (OV.move (v := .int .i64 x2) rfl) ?_
        refine GL.val trivial rfl (OV.ibin (v := .int .i64 (w .i64 (x2 + 1))) rfl rfl rfl) ?_
        refine GL.val trivial rfl (OV.assign (v := .int .i64 (w .i64 (x2 + 1))) rfl) ?_
        exact GL.jump (fun _ _ h => h) (w .i64 (x2 + 1)) h ⟨rfl, rfl, rfl, trivial⟩
    · replace h := And.right h hc5
      refine GC.exit_to (fun _ _ h => h) ?_
      refine GC.seq ?_
      refine GC.region ?_
      refine GL.val trivial rfl (OV.assign (v := .bool true) rfl) ?_
      refine GL.nil ?_
      exact GC.ret (fun _ _ hf hs => post_tmp1 rfl rfl hf hs ⟨true, rfl, h⟩)

def sh_law06_types (C : Ctx) (p_l : Sl) (p_most : Int) (K : Int → Heap → Prop) (H : Heap) : Prop :=
  lp (α := Int × Int) (0, 0) H (fun x1 J2 H3 =>
 ift ((decide ((x1.2 : Int) < (Sl.len p_l : Int))) && (decide ((x1.1 : Int) < p_most)))
 (ixa p_l x1.2 fun p6 =>
 ldS H3 ((p6.1, p6.2 + (x1.2 : Int).toNat * 2).1, (p6.1, p6.2 + (x1.2 : Int).toNat * 2).2 + 0) fun x11 =>
 ixa p_l x1.2 fun p13 =>
 ldL H3 ((p13.1, p13.2 + (x1.2 : Int).toNat * 2).1, (p13.1, p13.2 + (x1.2 : Int).toNat * 2).2 + 1) fun x18 =>
 c_law06_types C x18 (w .i64 (p_most - (w .i64 ((w .i64 (x1.1 + 1)) + (w .i64 (Int.tdiv (List.length x11 : Int) 50)))))) (fun r20 H21 =>
 J2 ((w .i64 ((w .i64 ((w .i64 (x1.1 + 1)) + (w .i64 (Int.tdiv (List.length x11 : Int) 50)))) + r20)), (w .i64 (x1.2 + 1))) H21) H3)
 (K x1.1 H3))

theorem ad_law06_types (C : Ctx) (p_l : Sl) (p_most : Int) (K : Int → Heap → Prop) (H : Heap) (h : sh_law06_types C p_l p_most K H) : c_law06_types C p_l p_most K H := by
  refine Spec.enter Tryz.func96 rfl Tryz.ntmps96 rfl ?_
  refine GC.sub [(0, slv p_l), (1, .int .i64 p_most)] ⟨rfl, rfl, trivial⟩ ?_
  refine GC.seq ?_
  refine GC.region ?_
  refine GL.val trivial rfl (OV.assign (v := .int .i64 0) rfl) ?_
  refine GL.nil ?_
  refine GC.seq ?_
  refine GC.region ?_
  refine GL.val trivial rfl (OV.assign (v := .int .i64 0) rfl) ?_
  refine GL.nil ?_
  refine GC.seq ?_
  refine GC.seq ?_
  refine GC.region ?_
  refine GL.val trivial rfl (OV.assign (v := .int .i64 0) rfl) ?_
  refine GL.nil ?_
  refine GC.block ?_
  refine GC.loop (α := Int × Int) h (fun x1 => [(5, .int .i64 x1.1), (6, .int .i64 x1.2), (0, slv p_l), (1, .int .i64 p_most)]) ⟨rfl, rfl, rfl, rfl, trivial⟩ ?_
  intro x1 H3 J2 h
  refine GC.seq ?_
  refine GC.seq ?_
  refine GC.region ?_
  refine GL.val trivial rfl (OV.move (v := .int .i64 x1.2) rfl) ?_
  refine GL.val trivial rfl (OV.move (v := slv p_l) rfl) ?_
  refine GL.val trivial rfl (OV.lenSl (s := p_l) rfl rfl) ?_
  refine GL.val trivial rfl (OV.ibin (v := .bool (decide ((x1.2 : Int) < (Sl.len p_l : Int)))) rfl rfl rfl) ?_
  refine GL.val trivial rfl (OV.move (v := .bool (decide ((x1.2 : Int) < (Sl.len p_l : Int)))) rfl) ?_
  refine GL.cut0 4 [(15, .bool ((decide ((x1.2 : Int) < (Sl.len p_l : Int))) && (decide ((x1.1 : Int) < p_most)))), (0, slv p_l), (1, .int .i64 p_most), (5, .int .i64 x1.1), (6, .int .i64 x1.2)] ?_ ?_
  · rcases Bool.eq_false_or_eq_true (decide ((x1.2 : Int) < (Sl.len p_l : Int))) with hc4 | hc4
    · skip
      refine GL.val ⟨_, _, rfl, rfl, hc4⟩ rfl (OV.move (v := .int .i64 x1.1) rfl) ?_
      refine GL.val ⟨_, _, rfl, rfl, hc4⟩ rfl (OV.move (v := .int .i64 p_most) rfl) ?_
      refine GL.val ⟨_, _, rfl, rfl, hc4⟩ rfl (OV.ibin (v := .bool (decide ((x1.1 : Int) < p_most))) rfl rfl rfl) ?_
      refine GL.val trivial rfl (OV.pickT (b := decide ((x1.2 : Int) < (Sl.len p_l : Int))) (v := .bool (decide ((x1.1 : Int) < p_most))) rfl hc4 rfl) ?_
      exact GL.jump0 (fun _ _ h => h) () rfl ⟨(by rw [hc4]; rfl), rfl, rfl, rfl, rfl, trivial⟩
    · skip
      refine GL.skip ⟨_, rfl, .inl ⟨_, rfl, hc4⟩⟩ rfl ?_
      refine GL.skip ⟨_, rfl, .inl ⟨_, rfl, hc4⟩⟩ rfl ?_
      refine GL.skip ⟨_, rfl, .inl ⟨_, rfl, hc4⟩⟩ rfl ?_
      refine GL.val trivial rfl (OV.pickF (b := decide ((x1.2 : Int) < (Sl.len p_l : Int))) (v := .bool false) rfl hc4 rfl) ?_
      exact GL.jump0 (fun _ _ h => h) () rfl ⟨(by rw [hc4]; rfl), rfl, rfl, rfl, rfl, trivial⟩
  refine GL.nil ?_
  refine GC.cond (b := (decide ((x1.2 : Int) < (Sl.len p_l : Int))) && (decide ((x1.1 : Int) < p_most))) rfl (fun hc5 => ?_) (fun hc5 => ?_)
  · replace h := And.left h hc5
    refine GC.skip ?_
    refine GC.seq ?_
    refine GC.block ?_
    refine GC.seq ?_
    refine GC.region ?_
    refine GL.val trivial rfl (OV.move (v := .int .i64 x1.1) rfl) ?_
    refine GL.val trivial rfl (OV.ibin (v := .int .i64 (w .i64 (x1.1 + 1))) rfl rfl rfl) ?_
    refine GL.val trivial rfl (OV.move (v := slv p_l) rfl) ?_
    refine GL.val trivial rfl (OV.move (v := .int .i64 x1.2) rfl) ?_
    obtain ⟨p6, ha7, hb8, hc9, hd10, h⟩ := h
    refine GL.val trivial rfl (OV.indexAddr (s := p_l) rfl rfl rfl rfl ha7 hb8 hc9 hd10) ?_
    refine GL.val trivial rfl (OV.fieldAddr (p := (p6.1, p6.2 + (x1.2 : Int).toNat * 2)) rfl rfl) ?_
    obtain ⟨x11, hr12, h⟩ := h
    refine GL.val trivial rfl (OV.load (p := ((p6.1, p6.2 + (x1.2 : Int).toNat * 2).1, (p6.1, p6.2 + (x1.2 : Int).toNat * 2).2 + 0)) rfl rfl hr12) ?_
    refine GL.val trivial rfl (OV.lenStr (s := x11) rfl rfl) ?_
    refine GL.val trivial rfl (OV.quo rfl rfl (by decide)) ?_
    refine GL.val trivial rfl (OV.ibin (v := .int .i64 (w .i64 ((w .i64 (x1.1 + 1)) + (w .i64 (Int.tdiv (List.length x11 : Int) 50))))) rfl rfl rfl) ?_
    refine GL.val trivial rfl (OV.assign (v := .int .i64 (w .i64 ((w .i64 (x1.1 + 1)) + (w .i64 (Int.tdiv (List.length x11 : Int) 50))))) rfl) ?_
    refine GL.nil ?_
    refine GC.region ?_
    refine GL.val trivial rfl (OV.move (v := .int .i64 (w .i64 ((w .i64 (x1.1 + 1)) + (w .i64 (Int.tdiv (List.length x11 : Int) 50))))) rfl) ?_
    refine GL.val trivial rfl (OV.move (v := slv p_l) rfl) ?_
    refine GL.val trivial rfl (OV.move (v := .int .i64 x1.2) rfl) ?_
    obtain ⟨p13, ha14, hb15, hc16, hd17, h⟩ := h
    refine GL.val trivial rfl (OV.indexAddr (s := p_l) rfl rfl rfl rfl ha14 hb15 hc16 hd17) ?_
    refine GL.val trivial rfl (OV.fieldAddr (p := (p13.1, p13.2 + (x1.2 : Int).toNat * 2)) rfl rfl) ?_
    obtain ⟨x18, hr19, h⟩ := h
    refine GL.val trivial rfl (OV.load (p := ((p13.1, p13.2 + (x1.2 : Int).toNat * 2).1, (p13.1, p13.2 + (x1.2 : Int).toNat * 2).2 + 1)) rfl rfl hr19) ?_
    refine GL.val trivial rfl (OV.move (v := .int .i64 p_most) rfl) ?_
    refine GL.val trivial rfl (OV.move (v := .int .i64 (w .i64 ((w .i64 (x1.1 + 1)) + (w .i64 (Int.tdiv (List.length x11 : Int) 50))))) rfl) ?_
    refine GL.val trivial rfl (OV.ibin (v := .int .i64 (w .i64 (p_most - (w .i64 ((w .i64 (x1.1 + 1)) + (w .i64 (Int.tdiv (List.length x11 : Int) 50))))))) rfl rfl rfl) ?_
    refine GL.call h trivial rfl ok_law06_types (vs := [slv x18, .int .i64 (w .i64 (p_most - (w .i64 ((w .i64 (x1.1 + 1)) + (w .i64 (Int.tdiv (List.length x11 : Int) 50))))))]) rfl ?_
    rintro _ H21 ⟨r20, rfl, h⟩
    refine GL.val trivial rfl (OV.ibin (v := .int .i64 (w .i64 ((w .i64 ((w .i64 (x1.1 + 1)) + (w .i64 (Int.tdiv (List.length x11 : Int) 50)))) + r20))) rfl rfl rfl) ?_
    refine GL.val trivial rfl (OV.assign (v := .int .i64 (w .i64 ((w .i64 ((w .i64 (x1.1 + 1)) + (w .i64 (Int.tdiv (List.length x11 : Int) 50)))) + r20))) rfl) ?_
    refine GL.nil_to (fun _ _ h => h) ?_
    refine GC.region ?_
    refine GL.val trivial rfl (OV.move (v := .int .i64 x1.2) rfl) ?_
    refine GL.val trivial rfl (OV.ibin (v := .int .i64 (w .i64 (x1.2 + 1))) rfl rfl rfl) ?_
    refine GL.val trivial rfl (OV.assign (v := .int .i64 (w .i64 (x1.2 + 1))) rfl) ?_
    exact GL.jump (fun _ _ h => h) ((w .i64 ((w .i64 ((w .i64 (x1.1 + 1)) + (w .i64 (Int.tdiv (List.length x11 : Int) 50)))) + r20)), (w .i64 (x1.2 + 1))) h ⟨rfl, rfl, rfl, rfl, trivial⟩
  · replace h := And.right h hc5
    refine GC.exit_to (fun _ _ h => h) ?_
    refine GC.seq ?_
    refine GC.region ?_
    refine GL.val trivial rfl (OV.move (v := .int .i64 x1.1) rfl) ?_
    refine GL.val trivial rfl (OV.assign (v := .int .i64 x1.1) rfl) ?_
    refine GL.nil ?_
    exact GC.ret (fun _ _ hf hs => post_tmp1 rfl rfl hf hs ⟨x1.1, rfl, h⟩)

def sh_tree_sameType (C : Ctx) (p_a : T_api_Type) (p_b : T_api_Type) (K : Bool → Heap → Prop) (H : Heap) : Prop :=
  nw (T_api_Type.c p_a) (fun b1 H2 =>
 nw (T_api_Type.c p_b) (fun b3 H4 =>
 ldS H4 ((b1, 0).1, (b1, 0).2 + 0) fun x5 =>
 ldS H4 ((b3, 0).1, (b3, 0).2 + 0) fun x7 =>
 jn (α := Bool) (fun b9 H19 =>
 K b9 H19)
 (fun J10 => ift (x5 == x7)
 (ldL H4 ((b1, 0).1, (b1, 0).2 + 1) fun x13 =>
 ldL H4 ((b3, 0).1, (b3, 0).2 + 1) fun x15 =>
 c_slices_EqualFunc_api_Type_api_Type_api_Type_api_Type C x13 x15 (.func (.func 164) (List.toArray []) (List.toArray []) : Value) (fun r17 H18 =>
 J10 r17 H18) H4)
 (J10 false H4))) H2) H

theorem ad_tree_sameType (C : Ctx) (p_a : T_api_Type) (p_b : T_api_Type) (K : Bool → Heap → Prop) (H : Heap) (h : sh_tree_sameType C p_a p_b K H) : c_tree_sameType C p_a p_b K H := by
  refine Spec.enter Tryz.func164 rfl Tryz.ntmps164 rfl ?_
  refine GC.sub [(0, .agg (T_api_Type.c p_a).toArray), (1, .agg (T_api_Type.c p_b).toArray)] ⟨rfl, rfl, trivial⟩ ?_
  refine GC.seq ?_
  refine GC.region ?_
  refine GL.box (v := .agg (T_api_Type.c p_a).toArray) (cs := T_api_Type.c p_a) h trivial rfl rfl rfl ?_
  intro b1 H2 h
  refine GL.box (v := .agg (T_api_Type.c p_b).toArray) (cs := T_api_Type.c p_b) h trivial rfl rfl rfl ?_
  intro b3 H4 h
  refine GL.val trivial rfl (OV.assign (v := .bool false) rfl) ?_
  refine GL.nil ?_
  refine GC.seq ?_
  refine GC.region ?_
  refine GL.val trivial rfl (OV.fieldAddr (p := (b1, 0)) rfl rfl) ?_
  obtain ⟨x5, hr6, h⟩ := h
  refine GL.val trivial rfl (OV.load (p := ((b1, 0).1, (b1, 0).2 + 0)) rfl rfl hr6) ?_
  refine GL.val trivial rfl (OV.fieldAddr (p := (b3, 0)) rfl rfl) ?_
  obtain ⟨x7, hr8, h⟩ := h
  refine GL.val trivial rfl (OV.load (p := ((b3, 0).1, (b3, 0).2 + 0)) rfl rfl hr8) ?_
  refine GL.val trivial rfl (OV.sbin (a := x5) (b := x7) (v := .bool (x5 == x7)) rfl rfl rfl) ?_
  refine GL.val trivial rfl (OV.move (v := .bool (x5 == x7)) rfl) ?_
  obtain ⟨J10, h, hR11⟩ := h
  refine GL.cut (α := Bool) 6 J10 (fun b9 => [(16, .bool b9)]) ?_ ?_
  · rcases Bool.eq_false_or_eq_true (x5 == x7) with hc12 | hc12
    · skip
      replace h := And.left h hc12
      refine GL.val ⟨_, _, rfl, rfl, hc12⟩ rfl (OV.fieldAddr (p := (b1, 0)) rfl rfl) ?_
      obtain ⟨x13, hr14, h⟩ := h
      refine GL.val ⟨_, _, rfl, rfl, hc12⟩ rfl (OV.load (p := ((b1, 0).1, (b1, 0).2 + 1)) rfl rfl hr14) ?_
      refine GL.val ⟨_, _, rfl, rfl, hc12⟩ rfl (OV.fieldAddr (p := (b3, 0)) rfl rfl) ?_
      obtain ⟨x15, hr16, h⟩ := h
      refine GL.val ⟨_, _, rfl, rfl, hc12⟩ rfl (OV.load (p := ((b3, 0).1, (b3, 0).2 + 1)) rfl rfl hr16) ?_
      refine GL.call h ⟨_, _, rfl, rfl, hc12⟩ rfl ok_slices_EqualFunc_api_Type_api_Type_api_Type_api_Type (vs := [slv x13, slv x15, .func (.func 164) (List.toArray []) (List.toArray [])]) rfl ?_
      rintro _ H18 ⟨r17, rfl, h⟩
      refine GL.val trivial rfl (OV.pickT (b := x5 == x7) (v := .bool r17) rfl hc12 rfl) ?_
      exact GL.jump (fun _ _ h => h) r17 h ⟨rfl, trivial⟩
    · skip
      replace h := And.right h hc12
      refine GL.skip ⟨_, rfl, .inl ⟨_, rfl, hc12⟩⟩ rfl ?_
      refine GL.skip ⟨_, rfl, .inl ⟨_, rfl, hc12⟩⟩ rfl ?_
      refine GL.skip ⟨_, rfl, .inl ⟨_, rfl, hc12⟩⟩ rfl ?_
      refine GL.skip ⟨_, rfl, .inl ⟨_, rfl, hc12⟩⟩ rfl ?_
      refine GL.skip ⟨_, rfl, .inl ⟨_, rfl, hc12⟩⟩ rfl ?_
      refine GL.val trivial rfl (OV.pickF (b := x5 == x7) (v := .bool false) rfl hc12 rfl) ?_
      exact GL.jump (fun _ _ h => h) false h ⟨rfl, trivial⟩
  intro b9 H19 h
  replace h := hR11 b9 H19 h
  refine GL.val trivial rfl (OV.assign (v := .bool b9) rfl) ?_
  refine GL.nil ?_
  exact GC.ret (fun _ _ hf hs => post_tmp1 rfl rfl hf hs ⟨b9, rfl, h⟩)

def sh_tree_sameValue (C : Ctx) (p_a : T_api_Value) (p_b : T_api_Value) (K : Bool → Heap → Prop) (H : Heap) : Prop :=
  nw (T_api_Value.c p_a) (fun b1 H2 =>
 nw (T_api_Value.c p_b) (fun b3 H4 =>
 ldI H4 .u8 ((b1, 0).1, (b1, 0).2 + 0) fun x5 =>
 ldI H4 .u8 ((b3, 0).1, (b3, 0).2 + 0) fun x7 =>
 jn (α := Bool) (fun b9 H17 =>
 jn (α := Bool) (fun b18 H26 =>
 jn (α := Bool) (fun b27 H37 =>
 K b27 H37)
 (fun J28 => ift b18
 (ldL H26 ((b1, 0).1, (b1, 0).2 + 3) fun x31 =>
 ldL H26 ((b3, 0).1, (b3, 0).2 + 3) fun x33 =>
 c_slices_EqualFunc_api_Value_api_Value_api_Value_api_Value C x31 x33 (.func (.func 165) (List.toArray []) (List.toArray []) : Value) (fun r35 H36 =>
 J28 r35 H36) H26)
 (J28 false H26)))
 (fun J19 => ift b9
 (ldS H17 ((b1, 0).1, (b1, 0).2 + 2) fun x22 =>
 ldS H17 ((b3, 0).1, (b3, 0).2 + 2) fun x24 =>
 J19 (x22 == x24) H17)
 (J19 false H17)))
 (fun J10 => ift ((x5 : Int) == x7)
 (ldI H4 .i64 ((b1, 0).1, (b1, 0).2 + 1) fun x13 =>
 ldI H4 .i64 ((b3, 0).1, (b3, 0).2 + 1) fun x15 =>
 J10 ((x13 : Int) == x15) H4)
 (J10 false H4))) H2) H

theorem ad_tree_sameValue (C : Ctx) (p_a : T_api_Value) (p_b : T_api_Value) (K : Bool → Heap → Prop) (H : Heap) (h : sh_tree_sameValue C p_a p_b K H) : c_tree_sameValue C p_a p_b K H := by
  refine Spec.enter Tryz.func165 rfl Tryz.ntmps165 rfl ?_
  refine GC.sub [(0, .agg (T_api_Value.c p_a).toArray), (1, .agg (T_api_Value.c p_b).toArray)] ⟨rfl, rfl, trivial⟩ ?_
  refine GC.seq ?_
  refine GC.region ?_
  refine GL.box (v := .agg (T_api_Value.c p_a).toArray) (cs := T_api_Value.c p_a) h trivial rfl rfl rfl ?_
  intro b1 H2 h
  refine GL.box (v := .agg (T_api_Value.c p_b).toArray) (cs := T_api_Value.c p_b) h trivial rfl rfl rfl ?_
  intro b3 H4 h
  refine GL.val trivial rfl (OV.assign (v := .bool false) rfl) ?_
  refine GL.nil ?_
  refine GC.seq ?_
  refine GC.region ?_
  refine GL.val trivial rfl (OV.fieldAddr (p := (b1, 0)) rfl rfl) ?_
  obtain ⟨x5, hr6, h⟩ := h
  refine GL.val trivial rfl (OV.load (p := ((b1, 0).1, (b1, 0).2 + 0)) rfl rfl hr6) ?_
  refine GL.val trivial rfl (OV.fieldAddr (p := (b3, 0)) rfl rfl) ?_
  obtain ⟨x7, hr8, h⟩ := h
  refine GL.val trivial rfl (OV.load (p := ((b3, 0).1, (b3, 0).2 + 0)) rfl rfl hr8) ?_
  refine GL.val trivial rfl (OV.ibin (v := .bool ((x5 : Int) == x7)) rfl rfl rfl) ?_
  refine GL.val trivial rfl (OV.move (v := .bool ((x5 : Int) == x7)) rfl) ?_
  obtain ⟨J10, h, hR11⟩ := h
  refine GL.cut (α := Bool) 6 J10 (fun b9 => [(16, .bool b9), (2, pv (some (b1, 0))), (3, pv (some (b3, 0)))]) ?_ ?_
  · rcases Bool.eq_false_or_eq_true ((x5 : Int) == x7) with hc12 | hc12
    · skip
      replace h := And.left h hc12
      refine GL.val ⟨_, _, rfl, rfl, hc12⟩ rfl (OV.fieldAddr (p := (b1, 0)) rfl rfl) ?_
      obtain ⟨x13, hr14, h⟩ := h
      refine GL.val ⟨_, _, rfl, rfl, hc12⟩ rfl (OV.load (p := ((b1, 0).1, (b1, 0).2 + 1)) rfl rfl hr14) ?_
      refine GL.val ⟨_, _, rfl, rfl, hc12⟩ rfl (OV.fieldAddr (p := (b3, 0)) rfl rfl) ?_
      obtain ⟨x15, hr16, h⟩ := h
      refine GL.val ⟨_, _, rfl, rfl, hc12⟩ rfl (OV.load (p := ((b3, 0).1, (b3, 0).2 + 1)) rfl rfl hr16) ?_
      refine GL.val ⟨_, _, rfl, rfl, hc12⟩ rfl (OV.ibin (v := .bool ((x13 : Int) == x15)) rfl rfl rfl) ?_
      refine GL.val trivial rfl (OV.pickT (b := (x5 : Int) == x7) (v := .bool ((x13 : Int) == x15)) rfl hc12 rfl) ?_
      exact GL.jump (fun _ _ h => h) ((x13 : Int) == x15) h ⟨rfl, rfl, rfl, trivial⟩
    · skip
      replace h := And.right h hc12
      refine GL.skip ⟨_, rfl, .inl ⟨_, rfl, hc12⟩⟩ rfl ?_
      refine GL.skip ⟨_, rfl, .inl ⟨_, rfl, hc12⟩⟩ rfl ?_
      refine GL.skip ⟨_, rfl, .inl ⟨_, rfl, hc12⟩⟩ rfl ?_
      refine GL.skip ⟨_, rfl, .inl ⟨_, rfl, hc12⟩⟩ rfl ?_
      refine GL.skip ⟨_, rfl, .inl ⟨_, rfl, hc12⟩⟩ rfl ?_
      refine GL.val trivial rfl (OV.pickF (b := (x5 : Int) == x7) (v := .bool false) rfl hc12 rfl) ?_
      exact GL.jump (fun _ _ h => h) false h ⟨rfl, rfl, rfl, trivial⟩
  intro b9 H17 h
  replace h := hR11 b9 H17 h
  refine GL.val trivial rfl (OV.move (v := .bool b9) rfl) ?_
  obtain ⟨J19, h, hR20⟩ := h
  refine GL.cut (α := Bool) 6 J19 (fun b18 => [(23, .bool b18), (2, pv (some (b1, 0))), (3, pv (some (b3, 0)))]) ?_ ?_
  · rcases Bool.eq_false_or_eq_true b9 with hc21 | hc21
    · skip
      replace h := And.left h hc21
      refine GL.val ⟨_, _, rfl, rfl, hc21⟩ rfl (OV.fieldAddr (p := (b1, 0)) rfl rfl) ?_
      obtain ⟨x22, hr23, h⟩ := h
      refine GL.val ⟨_, _, rfl, rfl, hc21⟩ rfl (OV.load (p := ((b1, 0).1, (b1, 0).2 + 2)) rfl rfl hr23) ?_
      refine GL.val ⟨_, _, rfl, rfl, hc21⟩ rfl (OV.fieldAddr (p := (b3, 0)) rfl rfl) ?_
      obtain ⟨x24, hr25, h⟩ := h
      refine GL.val ⟨_, _, rfl, rfl, hc21⟩ rfl (OV.load (p := ((b3, 0).1, (b3, 0).2 + 2)) rfl rfl hr25) ?_
      refine GL.val ⟨_, _, rfl, rfl, hc21⟩ rfl (OV.sbin (a := x22) (b := x24) (v := .bool (x22 == x24)) rfl rfl rfl) ?_
      refine GL.val trivial rfl (OV.pickT (b := b9) (v := .bool (x22 == x24)) rfl hc21 rfl) ?_
      exact GL.jump (fun _ _ h => h) (x22 == x24) h ⟨rfl, rfl, rfl, trivial⟩
    · skip
      replace h := And.right h hc21
      refine GL.skip ⟨_, rfl, .inl ⟨_, rfl, hc21⟩⟩ rfl ?_
      refine GL.skip ⟨_, rfl, .inl ⟨_, rfl, hc21⟩⟩ rfl ?_
      refine GL.skip ⟨_, rfl, .inl ⟨_, rfl, hc21⟩⟩ rfl ?_
      refine GL.skip ⟨_, rfl, .inl ⟨_, rfl, hc21⟩⟩ rfl ?_
      refine GL.skip ⟨_, rfl, .inl ⟨_, rfl, hc21⟩⟩ rfl ?_
      refine GL.val trivial rfl (OV.pickF (b := b9) (v := .bool false) rfl hc21 rfl) ?_
      exact GL.jump (fun _ _ h => h) false h ⟨rfl, rfl, rfl, trivial⟩
  intro b18 H26 h
  replace h := hR20 b18 H26 h
  refine GL.val trivial rfl (OV.move (v := .bool b18) rfl) ?_
  obtain ⟨J28, h, hR29⟩ := h
  refine GL.cut (α := Bool) 6 J28 (fun b27 => [(30, .bool b27)]) ?_ ?_
  · rcases Bool.eq_false_or_eq_true b18 with hc30 | hc30
    · skip
      replace h := And.left h hc30
      refine GL.val ⟨_, _, rfl, rfl, hc30⟩ rfl (OV.fieldAddr (p := (b1, 0)) rfl rfl) ?_
      obtain ⟨x31, hr32, h⟩ := h
      refine GL.val ⟨_, _, rfl, rfl, hc30⟩ rfl (OV.load (p := ((b1, 0).1, (b1, 0).2 + 3)) rfl rfl hr32) ?_
      refine GL.val ⟨_, _, rfl, rfl, hc30⟩ rfl (OV.fieldAddr (p := (b3, 0)) rfl rfl) ?_
      obtain ⟨x33, hr34, h⟩ := h
      refine GL.val ⟨_, _, rfl, rfl, hc30⟩ rfl (OV.load (p := ((b3, 0).1, (b3, 0).2 + 3)) rfl rfl hr34) ?_
      refine GL.call h ⟨_, _, rfl, rfl, hc30⟩ rfl ok_slices_EqualFunc_api_Value_api_Value_api_Value_api_Value (vs := [slv x31, slv x33, .func (.func 165) (List.toArray []) (List.toArray [])]) rfl ?_
      rintro _ H36 ⟨r35, rfl, h⟩
      refine GL.val trivial rfl (OV.pickT (b := b18) (v := .bool r35) rfl hc30 rfl) ?_
      exact GL.jump (fun _ _ h => h) r35 h ⟨rfl, trivial⟩
    · skip
      replace h := And.right h hc30
      refine GL.skip ⟨_, rfl, .inl ⟨_, rfl, hc30⟩⟩ rfl ?_
      refine GL.skip ⟨_, rfl, .inl ⟨_, rfl, hc30⟩⟩ rfl ?_
      refine GL.skip ⟨_, rfl, .inl ⟨_, rfl, hc30⟩⟩ rfl ?_
      refine GL.skip ⟨_, rfl, .inl ⟨_, rfl, hc30⟩⟩ rfl ?_
      refine GL.skip ⟨_, rfl, .inl ⟨_, rfl, hc30⟩⟩ rfl ?_
      refine GL.val trivial rfl (OV.pickF (b := b18) (v := .bool false) rfl hc30 rfl) ?_
      exact GL.jump (fun _ _ h => h) false h ⟨rfl, trivial⟩
  intro b27 H37 h
  replace h := hR29 b27 H37 h
  refine GL.val trivial rfl (OV.assign (v := .bool b27) rfl) ?_
  refine GL.nil ?_
  exact GC.ret (fun _ _ hf hs => post_tmp1 rfl rfl hf hs ⟨b27, rfl, h⟩)

def sh_ref06_SameTexts (C : Ctx) (p_a : Sl) (p_b : Sl) (K : Bool → Heap → Prop) (H : Heap) : Prop :=
  ift (((Sl.len p_a : Int) : Int) != (Sl.len p_b : Int))
 (K false H)
 (lp (α := Int) 0 H (fun x2 J3 H4 =>
 ift (decide ((x2 : Int) < (Sl.len p_a : Int)))
 (ixa p_a x2 fun p6 =>
 ldS H4 (p6.1, p6.2 + (x2 : Int).toNat * 1) fun x11 =>
 ixa p_b x2 fun p13 =>
 ldS H4 (p13.1, p13.2 + (x2 : Int).toNat * 1) fun x18 =>
 ift (!(x11 == x18))
 (K false H4)
 (J3 (w .i64 (x2 + 1)) H4))
 (K true H4)))

theorem ad_ref06_SameTexts (C : Ctx) (p_a : Sl) (p_b : Sl) (K : Bool → Heap → Prop) (H : Heap) (h : sh_ref06_SameTexts C p_a p_b K H) : c_ref06_SameTexts C p_a p_b K H := by
  refine Spec.enter Tryz.func166 rfl Tryz.ntmps166 rfl ?_
  refine GC.sub [(0, slv p_a), (1, slv p_b)] ⟨rfl, rfl, trivial⟩ ?_
  refine GC.seq ?_
  refine GC.region ?_
  refine GL.val trivial rfl (OV.assign (v := .bool false) rfl) ?_
  refine GL.nil ?_
  refine GC.seq ?_
  refine GC.seq ?_
  refine GC.region ?_
  refine GL.val trivial rfl (OV.move (v := slv p_a) rfl) ?_
  refine GL.val trivial rfl (OV.lenSl (s := p_a) rfl rfl) ?_
  refine GL.val trivial rfl (OV.move (v := slv p_b) rfl) ?_
  refine GL.val trivial rfl (OV.lenSl (s := p_b) rfl rfl) ?_
  refine GL.val trivial rfl (OV.ibin (v := .bool (((Sl.len p_a : Int) : Int) != (Sl.len p_b : Int))) rfl rfl rfl) ?_
  refine GL.nil ?_
  refine GC.cond (b := ((Sl.len p_a : Int) : Int) != (Sl.len p_b : Int)) rfl (fun hc1 => ?_) (fun hc1 => ?_)
  · replace h := And.left h hc1
    refine GC.seq ?_
    refine GC.region ?_
    refine GL.val trivial rfl (OV.assign (v := .bool false) rfl) ?_
    refine GL.nil ?_
    exact GC.ret (fun _ _ hf hs => post_tmp1 rfl rfl hf hs ⟨false, rfl, h⟩)
  · replace h := And.right h hc1
    refine GC.skip ?_
    refine GC.seq ?_
    refine GC.seq ?_
    refine GC.region ?_
    refine GL.val trivial rfl (OV.assign (v := .int .i64 0) rfl) ?_
    refine GL.nil ?_
    refine GC.block ?_
    refine GC.loop (α := Int) h (fun x2 => [(5, .int .i64 x2), (0, slv p_a), (1, slv p_b)]) ⟨rfl, rfl, rfl, trivial⟩ ?_
    intro x2 H4 J3 h
    refine GC.seq ?_
    refine GC.seq ?_
    refine GC.region ?_
    refine GL.val trivial rfl (OV.move (v := .int .i64 x2) rfl) ?_
    refine GL.val trivial rfl (OV.move (v := slv p_a) rfl) ?_
    refine GL.val trivial rfl (OV.lenSl (s := p_a) rfl rfl) ?_
    refine GL.val trivial rfl (OV.ibin (v := .bool (decide ((x2 : Int) < (Sl.len p_a : Int)))) rfl rfl rfl) ?_
    refine GL.nil ?_
    refine GC.cond (b := decide ((x2 : Int) < (Sl.len p_a : Int))) rfl (fun hc5 => ?_) (fun hc5 => ?_)
    · replace h := And.left h hc5
      refine GC.skip ?_
      refine GC.seq ?_
      refine GC.block ?_
      refine GC.seq ?_
      refine GC.draw (by kernel_rfl) (by kernel_rfl) ?_
      refine GQ.val trivial rfl (OV.move (v := slv p_a) rfl) ?_
      refine GQ.val trivial rfl (OV.move (v := .int .i64 x2) rfl) ?_
      obtain ⟨p6, ha7, hb8, hc9, hd10, h⟩ := h
      refine GQ.val trivial rfl (OV.indexAddr (s := p_a) rfl rfl rfl rfl ha7 hb8 hc9 hd10) ?_
      obtain ⟨x11, hr12, h⟩ := h
      refine GQ.val trivial rfl (OV.load (p := (p6.1, p6.2 + (x2 : Int).toNat * 1)) rfl rfl hr12) ?_
      refine GQ.val trivial rfl (OV.move (v := slv p_b) rfl) ?_
      refine GQ.val trivial rfl (OV.move (v := .int .i64 x2) rfl) ?_
      obtain ⟨p13, ha14, hb15, hc16, hd17, h⟩ := h
      refine GQ.val trivial rfl (OV.indexAddr (s := p_b) rfl rfl rfl rfl ha14 hb15 hc16 hd17) ?_
      obtain ⟨x18, hr19, h⟩ := h
      refine GQ.val trivial rfl (OV.load (p := (p13.1, p13.2 + (x2 : Int).toNat * 1)) rfl rfl hr19) ?_
      refine GQ.val trivial rfl (OV.sbin (a := x11) (b := x18) (v := .bool (!(x11 == x18))) rfl rfl rfl) ?_
      refine GQ.nil ?_
      refine GL.nil ?_
      refine GC.cond (b := !(x11 == x18)) rfl (fun hc20 => ?_) (fun hc20 => ?_)
      · replace h := And.left h hc20
        refine GC.seq ?_
        refine GC.region ?_
        refine GL.val trivial rfl (OV.assign (v := .bool false) rfl) ?_
        refine GL.nil ?_
        exact GC.ret (fun _ _ hf hs => post_tmp1 rfl rfl hf hs ⟨false, rfl, h⟩)
      · replace h := And.right h hc20
        refine GC.skip_to (fun _ _ h => h) ?_
        refine GC.region ?_
        refine GL.val trivial rfl (OV.move (v := .int .i64 x2) rfl) ?_
        refine GL.val trivial rfl (OV.ibin (v := .int .i64 (w .i64 (x2 + 1))) rfl rfl rfl) ?_
        refine GL.val trivial rfl (OV.assign (v := .int .i64 (w .i64 (x2 + 1))) rfl) ?_
        exact GL.jump (fun _ _ h => h) (w .i64 (x2 + 1)) h ⟨rfl, rfl, rfl, trivial⟩
    · replace h := And.right h hc5
      refine GC.exit_to (fun _ _ h => h) ?_
      refine GC.seq ?_
      refine GC.region ?_
      refine GL.val trivial rfl (OV.assign (v := .bool true) rfl) ?_
      refine GL.nil ?_
      exact GC.ret (fun _ _ hf hs => post_tmp1 rfl rfl hf hs ⟨true, rfl, h⟩)

def sh_ref06_SameType (C : Ctx) (p_a : T_api_Type) (p_b : T_api_Type) (K : Bool → Heap → Prop) (H : Heap) : Prop :=
  nw (T_api_Type.c p_a) (fun b1 H2 =>
 nw (T_api_Type.c p_b) (fun b3 H4 =>
 ldS H4 ((b1, 0).1, (b1, 0).2 + 0) fun x5 =>
 ldS H4 ((b3, 0).1, (b3, 0).2 + 0) fun x7 =>
 jn (α := Bool) (fun b9 H17 =>
 ift b9
 (K false H17)
 (lp (α := Int) 0 H17 (fun x19 J20 H21 =>
 ldL H21 ((b1, 0).1, (b1, 0).2 + 1) fun x22 =>
 ift (decide ((x19 : Int) < (Sl.len x22 : Int)))
 (dr H21 fun Hs25 =>
 ldL Hs25 ((b1, 0).1, (b1, 0).2 + 1) fun x27 =>
 ixa x27 x19 fun p29 =>
 ldT Hs25 T_api_Type.c (p29.1, p29.2 + (x19 : Int).toNat * 2) fun x34 =>
 ldL Hs25 ((b3, 0).1, (b3, 0).2 + 1) fun x36 =>
 ixa x36 x19 fun p38 =>
 ldT Hs25 T_api_Type.c (p38.1, p38.2 + (x19 : Int).toNat * 2) fun x43 =>
 c_ref06_SameType C x34 x43 (fun r46 H47 =>
 Heap.le Hs25 H47 ∧
 ift (!r46)
 (K false H47)
 (J20 (w .i64 (x19 + 1)) H47)) H21)
 (K true H21))))
 (fun J10 => ift (!(x5 == x7))
 (J10 true H4)
 (ldL H4 ((b1, 0).1, (b1, 0).2 + 1) fun x13 =>
 ldL H4 ((b3, 0).1, (b3, 0).2 + 1) fun x15 =>
 J10 (((Sl.len x13 : Int) : Int) != (Sl.len x15 : Int)) H4))) H2) H

theorem ad_ref06_SameType (C : Ctx) (p_a : T_api_Type) (p_b : T_api_Type) (K : Bool → Heap → Prop) (H : Heap) (h : sh_ref06_SameType C p_a p_b K H) : c_ref06_SameType C p_a p_b K H := by
  refine Spec.enter Tryz.func167 rfl Tryz.ntmps167 rfl ?_
  refine GC.sub [(0, .agg (T_api_Type.c p_a).toArray), (1, .agg (T_api_Type.c p_b).toArray)] ⟨rfl, rfl, trivial⟩ ?_
  refine GC.seq ?_
  refine GC.region ?_
  refine GL.box (v := .agg (T_api_Type.c p_a).toArray) (cs := T_api_Type.c p_a) h trivial rfl rfl rfl ?_
  intro b1 H2 h
  refine GL.box (v := .agg (T_api_Type.c p_b).toArray) (cs := T_api_Type.c p_b) h trivial rfl rfl rfl ?_
  intro b3 H4 h
  refine GL.val trivial rfl (OV.assign (v := .bool false) rfl) ?_
  refine GL.nil ?_
  refine GC.seq ?_
  refine GC.seq ?_
  refine GC.region ?_
  refine GL.val trivial rfl (OV.fieldAddr (p := (b1, 0)) rfl rfl) ?_
  obtain ⟨x5, hr6, h⟩ := h
  refine GL.val trivial rfl (OV.load (p := ((b1, 0).1, (b1, 0).2 + 0)) rfl rfl hr6) ?_
  refine GL.val trivial rfl (OV.fieldAddr (p := (b3, 0)) rfl rfl) ?_
  obtain ⟨x7, hr8, h⟩ := h
  refine GL.val trivial rfl (OV.load (p := ((b3, 0).1, (b3, 0).2 + 0)) rfl rfl hr8) ?_
  refine GL.val trivial rfl (OV.sbin (a := x5) (b := x7) (v := .bool (!(x5 == x7))) rfl rfl rfl) ?_
  refine GL.val trivial rfl (OV.move (v := .bool (!(x5 == x7))) rfl) ?_
  obtain ⟨J10, h, hR11⟩ := h
  refine GL.cut (α := Bool) 8 J10 (fun b9 => [(19, .bool b9), (2, pv (some (b1, 0))), (3, pv (some (b3, 0)))]) ?_ ?_
  · rcases Bool.eq_false_or_eq_true (!(x5 == x7)) with hc12 | hc12
    · skip
      replace h := And.left h hc12
      refine GL.skip ⟨_, rfl, .inl ⟨_, rfl, hc12⟩⟩ rfl ?_
      refine GL.skip ⟨_, rfl, .inl ⟨_, rfl, hc12⟩⟩ rfl ?_
      refine GL.skip ⟨_, rfl, .inl ⟨_, rfl, hc12⟩⟩ rfl ?_
      refine GL.skip ⟨_, rfl, .inl ⟨_, rfl, hc12⟩⟩ rfl ?_
      refine GL.skip ⟨_, rfl, .inl ⟨_, rfl, hc12⟩⟩ rfl ?_
      refine GL.skip ⟨_, rfl, .inl ⟨_, rfl, hc12⟩⟩ rfl ?_
      refine GL.skip ⟨_, rfl, .inl ⟨_, rfl, hc12⟩⟩ rfl ?_
      refine GL.val trivial rfl (OV.pickT (b := !(x5 == x7)) (v := .bool true) rfl hc12 rfl) ?_
      exact GL.jump (fun _ _ h => h) true h ⟨rfl, rfl, rfl, trivial⟩
    · skip
      replace h := And.right h hc12
      refine GL.val ⟨_, _, rfl, rfl, hc12⟩ rfl (OV.fieldAddr (p := (b1, 0)) rfl rfl) ?_
      obtain ⟨x13, hr14, h⟩ := h
      refine GL.val ⟨_, _, rfl, rfl, hc12⟩ rfl (OV.load (p := ((b1, 0).1, (b1, 0).2 + 1)) rfl rfl hr14) ?_
      refine GL.val ⟨_, _, rfl, rfl, hc12⟩ rfl (OV.lenSl (s := x13) rfl rfl) ?_
      refine GL.val ⟨_, _, rfl, rfl, hc12⟩ rfl (OV.fieldAddr (p := (b3, 0)) rfl rfl) ?_
      obtain ⟨x15, hr16, h⟩ := h
      refine GL.val ⟨_, _, rfl, rfl, hc12⟩ rfl (OV.load (p := ((b3, 0).1, (b3, 0).2 + 1)) rfl rfl hr16) ?_
      refine GL.val ⟨_, _, rfl, rfl, hc12⟩ rfl (OV.lenSl (s := x15) rfl rfl) ?_
      refine GL.val ⟨_, _, rfl, rfl, hc12⟩ rfl (OV.ibin (v := .bool (((Sl.len x13 : Int) : Int) != (Sl.len x15 : Int))) rfl rfl rfl) ?_
      refine GL.val trivial rfl (OV.pickF (b := !(x5 == x7)) (v := .bool (((Sl.len x13 : Int) : Int) != (Sl.len x15 : Int))) rfl hc12 rfl) ?_
      exact GL.jump (fun _ _ h => h) (((Sl.len x13 : Int) : Int) != (Sl.len x15 : Int)) h ⟨rfl, rfl, rfl, trivial⟩
  intro b9 H17 h
  replace h := hR11 b9 H17 h
  refine GL.nil ?_
  refine GC.cond (b := b9) rfl (fun hc18 => ?_) (fun hc18 => ?_)
  · replace h := And.left h hc18
    refine GC.seq ?_
    refine GC.region ?_
    refine GL.val trivial rfl (OV.assign (v := .bool false) rfl) ?_
    refine GL.nil ?_
    exact GC.ret (fun _ _ hf hs => post_tmp1 rfl rfl hf hs ⟨false, rfl, h⟩)
  · replace h := And.right h hc18
    refine GC.skip ?_
    refine GC.seq ?_
    refine GC.seq ?_
    refine GC.region ?_
    refine GL.val trivial rfl (OV.assign (v := .int .i64 0) rfl) ?_
    refine GL.nil ?_
    refine GC.block ?_
    refine GC.loop (α := Int) h (fun x19 => [(5, .int .i64 x19), (2, pv (some (b1, 0))), (3, pv (some (b3, 0)))]) ⟨rfl, rfl, rfl, trivial⟩ ?_
    intro x19 H21 J20 h
    refine GC.seq ?_
    refine GC.seq ?_
    refine GC.region ?_
    refine GL.val trivial rfl (OV.move (v := .int .i64 x19) rfl) ?_
    refine GL.val trivial rfl (OV.fieldAddr (p := (b1, 0)) rfl rfl) ?_
    obtain ⟨x22, hr23, h⟩ := h
    refine GL.val trivial rfl (OV.load (p := ((b1, 0).1, (b1, 0).2 + 1)) rfl rfl hr23) ?_
    refine GL.val trivial rfl (OV.lenSl (s := x22) rfl rfl) ?_
    refine GL.val trivial rfl (OV.ibin (v := .bool (decide ((x19 : Int) < (Sl.len x22 : Int)))) rfl rfl rfl) ?_
    refine GL.nil ?_
    refine GC.cond (b := decide ((x19 : Int) < (Sl.len x22 : Int))) rfl (fun hc24 => ?_) (fun hc24 => ?_)
    · replace h := And.left h hc24
      refine GC.skip ?_
      refine GC.seq ?_
      refine GC.block ?_
      refine GC.seq ?_
      obtain ⟨Hs25, hle26, h⟩ := h
      refine GC.any (Hs := Hs25) (by kernel_rfl) hle26 ?_
      refine GA.take 0 rfl (by kernel_rfl) (by kernel_rfl) (by kernel_rfl) (fun _ _ _ h => False.elim h) trivial rfl (OV.fieldAddr (p := (b1, 0)) rfl rfl) ?_
      obtain ⟨x27, hr28, h⟩ := h
      refine GA.take 1 rfl (by kernel_rfl) (by kernel_rfl) (by kernel_rfl) (fun _ _ _ h => False.elim h) trivial rfl (OV.load (p := ((b1, 0).1, (b1, 0).2 + 1)) rfl rfl hr28) ?_
      refine GA.take 2 rfl (by kernel_rfl) (by kernel_rfl) (by kernel_rfl) (fun _ _ _ h => False.elim h) trivial rfl (OV.move (v := .int .i64 x19) rfl) ?_
      obtain ⟨p29, ha30, hb31, hc32, hd33, h⟩ := h
      refine GA.take 3 rfl (by kernel_rfl) (by kernel_rfl) (by kernel_rfl) (fun _ _ _ h => False.elim h) trivial rfl (OV.indexAddr (s := x27) rfl rfl rfl rfl ha30 hb31 hc32 hd33) ?_
      obtain ⟨x34, hr35, h⟩ := h
      refine GA.take 4 rfl (by kernel_rfl) (by kernel_rfl) (by kernel_rfl) (fun _ _ _ h => False.elim h) trivial rfl (OV.loadT (p := (p29.1, p29.2 + (x19 : Int).toNat * 2)) (cs := T_api_Type.c x34) rfl rfl rfl hr35) ?_
      refine GA.take 5 rfl (by kernel_rfl) (by kernel_rfl) (by kernel_rfl) (fun _ _ _ h => False.elim h) trivial rfl (OV.fieldAddr (p := (b3, 0)) rfl rfl) ?_
      obtain ⟨x36, hr37, h⟩ := h
      refine GA.take 6 rfl (by kernel_rfl) (by kernel_rfl) (by kernel_rfl) (fun _ _ _ h => False.elim h) trivial rfl (OV.load (p := ((b3, 0).1, (b3, 0).2 + 1)) rfl rfl hr37) ?_
      refine GA.take 7 rfl (by kernel_rfl) (by kernel_rfl) (by kernel_rfl) (fun _ _ _ h => False.elim h) trivial rfl (OV.move (v := .int .i64 x19) rfl) ?_
      obtain ⟨p38, ha39, hb40, hc41, hd42, h⟩ := h
      refine GA.take 8 rfl (by kernel_rfl) (by kernel_rfl) (by kernel_rfl) (fun _ _ _ h => False.elim h) trivial rfl (OV.indexAddr (s := x36) rfl rfl rfl rfl ha39 hb40 hc41 hd42) ?_
      obtain ⟨x43, hr44, h⟩ := h
      refine GA.take 9 rfl (by kernel_rfl) (by kernel_rfl) (by kernel_rfl) (fun _ _ _ h => False.elim h) trivial rfl (OV.loadT (p := (p38.1, p38.2 + (x19 : Int).toNat * 2)) (cs := T_api_Type.c x43) rfl rfl rfl hr44) ?_
      refine GA.eff 10 rfl (by kernel_rfl) ?_
      refine GL.call h trivial rfl ok_ref06_SameType (vs := [.agg (T_api_Type.c x34).toArray, .agg (T_api_Type.c x43).toArray]) rfl ?_
      rintro _ H47 ⟨r46, rfl, h⟩
      obtain ⟨hle45, h⟩ := h
      refine GA.back hle45 ?_
      refine GA.take 11 rfl (by kernel_rfl) (by kernel_rfl) (by kernel_rfl) (fun _ _ _ h => False.elim h) trivial rfl (OV.not rfl) ?_
      refine GA.done (by kernel_rfl) ?_
      refine GL.nil ?_
      refine GC.cond (b := !r46) rfl (fun hc48 => ?_) (fun hc48 => ?_)
      · replace h := And.left h hc48
        refine GC.seq ?_
        refine GC.region ?_
        refine GL.val trivial rfl (OV.assign (v := .bool false) rfl) ?_
        refine GL.nil ?_
        exact GC.ret (fun _ _ hf hs => post_tmp1 rfl rfl hf hs ⟨false, rfl, h⟩)
      · replace h := And.right h hc48
        refine GC.skip_to (fun _ _ h => h) ?_
        refine GC.region ?_
        refine GL.val trivial rfl (OV.move (v := .int .i64 x19) rfl) ?_
        refine GL.val trivial rfl (OV.ibin (v := .int .i64 (w .i64 (x19 + 1))) rfl rfl rfl) ?_
        refine GL.val trivial rfl (OV.assign (v := .int .i64 (w .i64 (x19 + 1))) rfl) ?_
        exact GL.jump (fun _ _ h => h) (w .i64 (x19 + 1)) h ⟨rfl, rfl, rfl, trivial⟩
    · replace h := And.right h hc24
      refine GC.exit_to (fun _ _ h => h) ?_
      refine GC.seq ?_
      refine GC.region ?_
      refine GL.val trivial rfl (OV.assign (v := .bool true) rfl) ?_
      refine GL.nil ?_
      exact GC.ret (fun _ _ hf hs => post_tmp1 rfl rfl hf hs ⟨true, rfl, h⟩)

def sh_ref02_SameRow (C : Ctx) (p_a : Sl) (p_b : Sl) (K : Bool → Heap → Prop) (H : Heap) : Prop :=
  ift (((Sl.len p_a : Int) : Int) != (Sl.len p_b : Int))
 (K false H)
 (lp (α := Int) 0 H (fun x2 J3 H4 =>
 ift (decide ((x2 : Int) < (Sl.len p_a : Int)))
 (dr H4 fun Hs6 =>
 ixa p_a x2 fun p8 =>
 ldT Hs6 T_api_Value.c (p8.1, p8.2 + (x2 : Int).toNat * 4) fun x13 =>
 ixa p_b x2 fun p15 =>
 ldT Hs6 T_api_Value.c (p15.1, p15.2 + (x2 : Int).toNat * 4) fun x20 =>
 c_ref02_Same C x13 x20 (fun r23 H24 =>
 Heap.le Hs6 H24 ∧
 ift (!r23)
 (K false H24)
 (J3 (w .i64 (x2 + 1)) H24)) H4)
 (K true H4)))

theorem ad_ref02_SameRow (C : Ctx) (p_a : Sl) (p_b : Sl) (K : Bool → Heap → Prop) (H : Heap) (h : sh_ref02_SameRow C p_a p_b K H) : c_ref02_SameRow C p_a p_b K H := by
  refine Spec.enter Tryz.func172 rfl Tryz.ntmps172 rfl ?_
  refine GC.sub [(0, slv p_a), (1, slv p_b)] ⟨rfl, rfl, trivial⟩ ?_
  refine GC.seq ?_
  refine GC.region ?_
  refine GL.val trivial rfl (OV.assign (v := .bool false) rfl) ?_
  refine GL.nil ?_
  refine GC.seq ?_
  refine GC.seq ?_
  refine GC.region ?_
  refine GL.val trivial rfl (OV.move (v := slv p_a) rfl) ?_
  refine GL.val trivial rfl (OV.lenSl (s := p_a) rfl rfl) ?_
  refine GL.val trivial rfl (OV.move (v := slv p_b) rfl) ?_
  refine GL.val trivial rfl (OV.lenSl (s := p_b) rfl rfl) ?_
  refine GL.val trivial rfl (OV.ibin (v := .bool (((Sl.len p_a : Int) : Int) != (Sl.len p_b : Int))) rfl rfl rfl) ?_
  refine GL.nil ?_
  refine GC.cond (b := ((Sl.len p_a : Int) : Int) != (Sl.len p_b : Int)) rfl (fun hc1 => ?_) (fun hc1 => ?_)
  · replace h := And.left h hc1
    refine GC.seq ?_
    refine GC.region ?_
    refine GL.val trivial rfl (OV.assign (v := .bool false) rfl) ?_
    refine GL.nil ?_
    exact GC.ret (fun _ _ hf hs => post_tmp1 rfl rfl hf hs ⟨false, rfl, h⟩)
  · replace h := And.right h hc1
    refine GC.skip ?_
    refine GC.seq ?_
    refine GC.seq ?_
    refine GC.region ?_
    refine GL.val trivial rfl (OV.assign (v := .int .i64 0) rfl) ?_
    refine GL.nil ?_
    refine GC.block ?_
    refine GC.loop (α := Int) h (fun x2 => [(5, .int .i64 x2), (0, slv p_a), (1, slv p_b)]) ⟨rfl, rfl, rfl, trivial⟩ ?_
    intro x2 H4 J3 h
    refine GC.seq ?_
    refine GC.seq ?_
    refine GC.region ?_
    refine GL.val trivial rfl (OV.move (v := .int .i64 x2) rfl) ?_
    refine GL.val trivial rfl (OV.move (v := slv p_a) rfl) ?_
    refine GL.val trivial rfl (OV.lenSl (s := p_a) rfl rfl) ?_
    refine GL.val trivial rfl (OV.ibin (v := .bool (decide ((x2 : Int) < (Sl.len p_a : Int)))) rfl rfl rfl) ?_
    refine GL.nil ?_
    refine GC.cond (b := decide ((x2 : Int) < (Sl.len p_a : Int))) rfl (fun hc5 => ?_) (fun hc5 => ?_)
    · replace h := And.left h hc5
      refine GC.skip ?_
      refine GC.seq ?_
      refine GC.block ?_
      refine GC.seq ?_
      obtain ⟨Hs6, hle7, h⟩ := h
      refine GC.any (Hs := Hs6) (by kernel_rfl) hle7 ?_
      refine GA.take 0 rfl (by kernel_rfl) (by kernel_rfl) (by kernel_rfl) (fun _ _ _ h => False.elim h) trivial rfl (OV.move (v := slv p_a) rfl) ?_
      refine GA.take 1 rfl (by kernel_rfl) (by kernel_rfl) (by kernel_rfl) (fun _ _ _ h => False.elim h) trivial rfl (OV.move (v := .int .i64 x2) rfl) ?_
      obtain ⟨p8, ha9, hb10, hc11, hd12, h⟩ := h
      refine GA.take 2 rfl (by kernel_rfl) (by kernel_rfl) (by kernel_rfl) (fun _ _ _ h => False.elim h) trivial rfl (OV.indexAddr (s := p_a) rfl rfl rfl rfl ha9 hb10 hc11 hd12) ?_
      obtain ⟨x13, hr14, h⟩ := h
      refine GA.take 3 rfl (by kernel_rfl) (by kernel_rfl) (by kernel_rfl) (fun _ _ _ h => False.elim h) trivial rfl (OV.loadT (p := (p8.1, p8.2 + (x2 : Int).toNat * 4)) (cs := T_api_Value.c x13) rfl rfl rfl hr14) ?_
      refine GA.take 4 rfl (by kernel_rfl) (by kernel_rfl) (by kernel_rfl) (fun _ _ _ h => False.elim h) trivial rfl (OV.move (v := slv p_b) rfl) ?_
      refine GA.take 5 rfl (by kernel_rfl) (by kernel_rfl) (by kernel_rfl) (fun _ _ _ h => False.elim h) trivial rfl (OV.move (v := .int .i64 x2) rfl) ?_
      obtain ⟨p15, ha16, hb17, hc18, hd19, h⟩ := h
      refine GA.take 6 rfl (by kernel_rfl) (by kernel_rfl) (by kernel_rfl) (fun _ _ _ h => False.elim h) trivial rfl (OV.indexAddr (s := p_b) rfl rfl rfl rfl ha16 hb17 hc18 hd19) ?_
      obtain ⟨x20, hr21, h⟩ := h
      refine GA.take 7 rfl (by kernel_rfl) (by kernel_rfl) (by kernel_rfl) (fun _ _ _ h => False.elim h) trivial rfl (OV.loadT (p := (p15.1, p15.2 + (x2 : Int).toNat * 4)) (cs := T_api_Value.c x20) rfl rfl rfl hr21) ?_
      refine GA.eff 8 rfl (by kernel_rfl) ?_
      refine GL.call h trivial rfl ok_ref02_Same (vs := [.agg (T_api_Value.c x13).toArray, .agg (T_api_Value.c x20).toArray]) rfl ?_
      rintro _ H24 ⟨r23, rfl, h⟩
      obtain ⟨hle22, h⟩ := h
      refine GA.back hle22 ?_
      refine GA.take 9 rfl (by kernel_rfl) (by kernel_rfl) (by kernel_rfl) (fun _ _ _ h => False.elim h) trivial rfl (OV.not rfl) ?_
      refine GA.done (by kernel_rfl) ?_
      refine GL.nil ?_
      refine GC.cond (b := !r23) rfl (fun hc25 => ?_) (fun hc25 => ?_)
      · replace h := And.left h hc25
        refine GC.seq ?_
        refine GC.region ?_
        refine GL.val trivial rfl (OV.assign (v := .bool false) rfl) ?_
        refine GL.nil ?_
        exact GC.ret (fun _ _ hf hs => post_tmp1 rfl rfl hf hs ⟨false, rfl, h⟩)
      · replace h := And.right h hc25
        refine GC.skip_to (fun _ _ h => h) ?_
        refine GC.region ?_
        refine GL.val trivial rfl (OV.move (v := .int .i64 x2) rfl) ?_
        refine GL.val trivial rfl (OV.ibin (v := .int .i64 (w .i64 (x2 + 1))) rfl rfl rfl) ?_
        refine GL.val trivial rfl (OV.assign (v := .int .i64 (w .i64 (x2 + 1))) rfl) ?_
        exact GL.jump (fun _ _ h => h) (w .i64 (x2 + 1)) h ⟨rfl, rfl, rfl, trivial⟩
    · replace h := And.right h hc5
      refine GC.exit_to (fun _ _ h => h) ?_
      refine GC.seq ?_
      refine GC.region ?_
      refine GL.val trivial rfl (OV.assign (v := .bool true) rfl) ?_
      refine GL.nil ?_
      exact GC.ret (fun _ _ hf hs => post_tmp1 rfl rfl hf hs ⟨true, rfl, h⟩)

def sh_slices_EqualFunc_api_Type_api_Type_api_Type_api_Type (C : Ctx) (p_s1 : Sl) (p_s2 : Sl) (p_eq : Value) (K : Bool → Heap → Prop) (H : Heap) : Prop :=
  ift (((Sl.len p_s1 : Int) : Int) != (Sl.len p_s2 : Int))
 (K false H)
 (lp (α := Int) 0 H (fun x2 J3 H4 =>
 ift (decide ((x2 : Int) < (Sl.len p_s1 : Int)))
 (ixa p_s1 x2 fun p6 =>
 ldT H4 T_api_Type.c (p6.1, p6.2 + (x2 : Int).toNat * 2) fun x11 =>
 nw (T_api_Type.c T_api_Type.zero) (fun b13 H14 =>
 stT (b13, 0) (T_api_Type.c x11) (fun H15 =>
 ixa p_s2 x2 fun p16 =>
 ldT H15 T_api_Type.c (p16.1, p16.2 + (x2 : Int).toNat * 2) fun x21 =>
 nw (T_api_Type.c T_api_Type.zero) (fun b23 H24 =>
 stT (b23, 0) (T_api_Type.c x21) (fun H25 =>
 ldT H25 T_api_Type.c (b13, 0) fun x26 =>
 ldT H25 T_api_Type.c (b23, 0) fun x28 =>
 callU Tryz.prog C p_eq [.agg (T_api_Type.c x26).toArray, .agg (T_api_Type.c x28).toArray] H25 (fun v H31 => ∃ (r30 : Bool), v = .bool r30 ∧
 ift (!r30)
 (K false H31)
 (J3 (w .i64 (x2 + 1)) H31))) H24) H15) H14) H4)
 (K true H4)))

theorem ad_slices_EqualFunc_api_Type_api_Type_api_Type_api_Type (C : Ctx) (p_s1 : Sl) (p_s2 : Sl) (p_eq : Value) (K : Bool → Heap → Prop) (H : Heap) (h : sh_slices_EqualFunc_api_Type_api_Type_api_Type_api_Type C p_s1 p_s2 p_eq K H) : c_slices_EqualFunc_api_Type_api_Type_api_Type_api_Type C p_s1 p_s2 p_eq K H := by
  refine Spec.enter Tryz.func204 rfl Tryz.ntmps204 rfl ?_
  refine GC.sub [(0, slv p_s1), (1, slv p_s2), (2, p_eq)] ⟨rfl, rfl, rfl, trivial⟩ ?_
  refine GC.seq ?_
  refine GC.region ?_
  refine GL.val trivial rfl (OV.assign (v := .bool false) rfl) ?_
  refine GL.nil ?_
  refine GC.seq ?_
  refine GC.seq ?_
  refine GC.region ?_
  refine GL.val trivial rfl (OV.move (v := slv p_s1) rfl) ?_
  refine GL.val trivial rfl (OV.lenSl (s := p_s1) rfl rfl) ?_
  refine GL.val trivial rfl (OV.move (v := slv p_s2) rfl) ?_
  refine GL.val trivial rfl (OV.lenSl (s := p_s2) rfl rfl) ?_
  refine GL.val trivial rfl (OV.ibin (v := .bool (((Sl.len p_s1 : Int) : Int) != (Sl.len p_s2 : Int))) rfl rfl rfl) ?_
  refine GL.nil ?_
  refine GC.cond (b := ((Sl.len p_s1 : Int) : Int) != (Sl.len p_s2 : Int)) rfl (fun hc1 => ?_) (fun hc1 => ?_)
  · replace h := And.left h hc1
    refine GC.seq ?_
    refine GC.region ?_
    refine GL.val trivial rfl (OV.assign (v := .bool false) rfl) ?_
    refine GL.nil ?_
    exact GC.ret (fun _ _ hf hs => post_tmp1 rfl rfl hf hs ⟨false, rfl, h⟩)
  · replace h := And.right h hc1
    refine GC.skip ?_
    refine GC.seq ?_
    refine GC.seq ?_
    refine GC.region ?_
    refine GL.val trivial rfl (OV.move (v := slv p_s1) rfl) ?_
    refine GL.val trivial rfl (OV.lenSl (s := p_s1) rfl rfl) ?_
    refine GL.val trivial rfl (OV.move (v := .int .i64 0) rfl) ?_
    refine GL.nil ?_
    refine GC.block ?_
    refine GC.loop (α := Int) h (fun x2 => [(17, .int .i64 x2), (1, slv p_s2), (2, p_eq), (15, slv p_s1), (16, .int .i64 (Sl.len p_s1 : Int))]) ⟨rfl, rfl, rfl, rfl, rfl, trivial⟩ ?_
    intro x2 H4 J3 h
    refine GC.seq ?_
    refine GC.region ?_
    refine GL.val trivial rfl (OV.ibin (v := .bool (decide ((x2 : Int) < (Sl.len p_s1 : Int)))) rfl rfl rfl) ?_
    refine GL.nil ?_
    refine GC.seq ?_
    refine GC.cond (b := decide ((x2 : Int) < (Sl.len p_s1 : Int))) rfl (fun hc5 => ?_) (fun hc5 => ?_)
    · replace h := And.left h hc5
      refine GC.skip ?_
      refine GC.seq ?_
      refine GC.block ?_
      refine GC.seq ?_
      refine GC.region ?_
      refine GL.val trivial rfl (OV.move (v := .int .i64 x2) rfl) ?_
      obtain ⟨p6, ha7, hb8, hc9, hd10, h⟩ := h
      refine GL.val trivial rfl (OV.indexAddr (s := p_s1) rfl rfl rfl rfl ha7 hb8 hc9 hd10) ?_
      obtain ⟨x11, hr12, h⟩ := h
      refine GL.val trivial rfl (OV.loadT (p := (p6.1, p6.2 + (x2 : Int).toNat * 2)) (cs := T_api_Type.c x11) rfl rfl rfl hr12) ?_
      refine GL.alloc (cs := T_api_Type.c T_api_Type.zero) h trivial rfl rfl rfl ?_
      intro b13 H14 h
      refine GL.val trivial rfl (OV.assign (v := .int .i64 x2) rfl) ?_
      refine GL.storeT (p := (b13, 0)) (vs := T_api_Type.c x11) h trivial rfl rfl rfl rfl ?_
      intro H15 h
      refine GL.nil ?_
      refine GC.seq ?_
      refine GC.region ?_
      refine GL.val trivial rfl (OV.move (v := slv p_s2) rfl) ?_
      refine GL.val trivial rfl (OV.move (v := .int .i64 x2) rfl) ?_
      obtain ⟨p16, ha17, hb18, hc19, hd20, h⟩ := h
      refine GL.val trivial rfl (OV.indexAddr (s := p_s2) rfl rfl rfl rfl ha17 hb18 hc19 hd20) ?_
      obtain ⟨x21, hr22, h⟩ := h
      refine GL.val trivial rfl (OV.loadT (p := (p16.1, p16.2 + (x2 : Int).toNat * 2)) (cs := T_api_Type.c x21) rfl rfl rfl hr22) ?_
      refine GL.alloc (cs := T_api_Type.c T_api_Type.zero) h trivial rfl rfl rfl ?_
      intro b23 H24 h
      refine GL.storeT (p := (b23, 0)) (vs := T_api_Type.c x21) h trivial rfl rfl rfl rfl ?_
      intro H25 h
      refine GL.nil ?_
      refine GC.seq ?_
      refine GC.region ?_
      refine GL.val trivial rfl (OV.move (v := p_eq) rfl) ?_
      obtain ⟨x26, hr27, h⟩ := h
      refine GL.val trivial rfl (OV.loadT (p := (b13, 0)) (cs := T_api_Type.c x26) rfl rfl rfl hr27) ?_
      obtain ⟨x28, hr29, h⟩ := h
      refine GL.val trivial rfl (OV.loadT (p := (b23, 0)) (cs := T_api_Type.c x28) rfl rfl rfl hr29) ?_
      refine GL.callU (xv := p_eq) (vs := [.agg (T_api_Type.c x26).toArray, .agg (T_api_Type.c x28).toArray]) h trivial rfl rfl rfl ?_
      rintro _ H31 ⟨r30, rfl, h⟩
      refine GL.val trivial rfl (OV.not rfl) ?_
      refine GL.nil ?_
      refine GC.cond (b := !r30) rfl (fun hc32 => ?_) (fun hc32 => ?_)
      · replace h := And.left h hc32
        refine GC.seq ?_
        refine GC.region ?_
        refine GL.val trivial rfl (OV.assign (v := .bool false) rfl) ?_
        refine GL.nil ?_
        exact GC.ret (fun _ _ hf hs => post_tmp1 rfl rfl hf hs ⟨false, rfl, h⟩)
      · replace h := And.right h hc32
        refine GC.skip_to (fun _ _ h => h) ?_
        refine GC.region ?_
        refine GL.val trivial rfl (OV.ibin (v := .int .i64 (w .i64 (x2 + 1))) rfl rfl rfl) ?_
        refine GL.val trivial rfl (OV.move (v := .int .i64 (w .i64 (x2 + 1))) rfl) ?_
        exact GL.jump (fun _ _ h => h) (w .i64 (x2 + 1)) h ⟨rfl, rfl, rfl, rfl, rfl, trivial⟩
    · replace h := And.right h hc5
      refine GC.exit_to (fun _ _ h => h) ?_
      refine GC.seq ?_
      refine GC.region ?_
      refine GL.val trivial rfl (OV.assign (v := .bool true) rfl) ?_
      refine GL.nil ?_
      exact GC.ret (fun _ _ hf hs => post_tmp1 rfl rfl hf hs ⟨true, rfl, h⟩)

def sh_slices_EqualFunc_api_Value_api_Value_api_Value_api_Value (C : Ctx) (p_s1 : Sl) (p_s2 : Sl) (p_eq : Value) (K : Bool → Heap → Prop) (H : Heap) : Prop :=
  ift (((Sl.len p_s1 : Int) : Int) != (Sl.len p_s2 : Int))
 (K false H)
 (lp (α := Int) 0 H (fun x2 J3 H4 =>
 ift (decide ((x2 : Int) < (Sl.len p_s1 : Int)))
 (ixa p_s1 x2 fun p6 =>
 ldT H4 T_api_Value.c (p6.1, p6.2 + (x2 : Int).toNat * 4) fun x11 =>
 nw (T_api_Value.c T_api_Value.zero) (fun b13 H14 =>
 stT (b13, 0) (T_api_Value.c x11) (fun H15 =>
 ixa p_s2 x2 fun p16 =>
 ldT H15 T_api_Value.c (p16.1, p16.2 + (x2 : Int).toNat * 4) fun x21 =>
 nw (T_api_Value.c T_api_Value.zero) (fun b23 H24 =>
 stT (b23, 0) (T_api_Value.c x21) (fun H25 =>
 ldT H25 T_api_Value.c (b13, 0) fun x26 =>
 ldT H25 T_api_Value.c (b23, 0) fun x28 =>
 callU Tryz.prog C p_eq [.agg (T_api_Value.c x26).toArray, .agg (T_api_Value.c x28).toArray] H25 (fun v H31 => ∃ (r30 : Bool), v = .bool r30 ∧
 ift (!r30)
 (K false H31)
 (J3 (w .i64 (x2 + 1)) H31))) H24) H15) H14) H4)
 (K true H4)))

theorem ad_slices_EqualFunc_api_Value_api_Value_api_Value_api_Value (C : Ctx) (p_s1 : Sl) (p_s2 : Sl) (p_eq : Value) (K : Bool → Heap → Prop) (H : Heap) (h : sh_slices_EqualFunc_api_Value_api_Value_api_Value_api_Value C p_s1 p_s2 p_eq K H) : c_slices_EqualFunc_api_Value_api_Value_api_Value_api_Value C p_s1 p_s2 p_eq K H := by
  refine Spec.enter Tryz.func205 rfl Tryz.ntmps205 rfl ?_
  refine GC.sub [(0, slv p_s1), (1, slv p_s2), (2, p_eq)] ⟨rfl, rfl, rfl, trivial⟩ ?_
  refine GC.seq ?_
  refine GC.region ?_
  refine GL.val trivial rfl (OV.assign (v := .bool false) rfl) ?_
  refine GL.nil ?_
  refine GC.seq ?_
  refine GC.seq ?_
  refine GC.region ?_
  refine GL.val trivial rfl (OV.move (v := slv p_s1) rfl) ?_
  refine GL.val trivial rfl (OV.lenSl (s := p_s1) rfl rfl) ?_
  refine GL.val trivial rfl (OV.move (v := slv p_s2) rfl) ?_
  refine GL.val trivial rfl (OV.lenSl (s := p_s2) rfl rfl) ?_
  refine GL.val trivial rfl (OV.ibin (v := .bool (((Sl.len p_s1 : Int) : Int) != (Sl.len p_s2 : Int))) rfl rfl rfl) ?_
  refine GL.nil ?_
  refine GC.cond (b := ((Sl.len p_s1 : Int) : Int) != (Sl.len p_s2 : Int)) rfl (fun hc1 => ?_) (fun hc1 => ?_)
  · replace h := And.left h hc1
    refine GC.seq ?_
    refine GC.region ?_
    refine GL.val trivial rfl (OV.assign (v := .bool false) rfl) ?_
    refine GL.nil ?_
    exact GC.ret (fun _ _ hf hs => post_tmp1 rfl rfl hf hs ⟨false, rfl, h⟩)
  · replace h := And.right h hc1
    refine GC.skip ?_
    refine GC.seq ?_
    refine GC.seq ?_
    refine GC.region ?_
    refine GL.val trivial rfl (OV.move (v := slv p_s1) rfl) ?_
    refine GL.val trivial rfl (OV.lenSl (s := p_s1) rfl rfl) ?_
    refine GL.val trivial rfl (OV.move (v := .int .i64 0) rfl) ?_
    refine GL.nil ?_
    refine GC.block ?_
    refine GC.loop (α := Int) h (fun x2 => [(17, .int .i64 x2), (1, slv p_s2), (2, p_eq), (15, slv p_s1), (16, .int .i64 (Sl.len p_s1 : Int))]) ⟨rfl, rfl, rfl, rfl, rfl, trivial⟩ ?_
    intro x2 H4 J3 h
    refine GC.seq ?_
    refine GC.region ?_
    refine GL.val trivial rfl (OV.ibin (v := .bool (decide ((x2 : Int) < (Sl.len p_s1 : Int)))) rfl rfl rfl) ?_
    refine GL.nil ?_
    refine GC.seq ?_
    refine GC.cond (b := decide ((x2 : Int) < (Sl.len p_s1 : Int))) rfl (fun hc5 => ?_) (fun hc5 => ?_)
    · replace h := And.left h hc5
      refine GC.skip ?_
      refine GC.seq ?_
      refine GC.block ?_
      refine GC.seq ?_
      refine GC.region ?_
      refine GL.val trivial rfl (OV.move (v := .int .i64 x2) rfl) ?_
      obtain ⟨p6, ha7, hb8, hc9, hd10, h⟩ := h
      refine GL.val trivial rfl (OV.indexAddr (s := p_s1) rfl rfl rfl rfl ha7 hb8 hc9 hd10) ?_
      obtain ⟨x11, hr12, h⟩ := h
      refine GL.val trivial rfl (OV.loadT (p := (p6.1, p6.2 + (x2 : Int).toNat * 4)) (cs := T_api_Value.c x11) rfl rfl rfl hr12) ?_
      refine GL.alloc (cs := T_api_Value.c T_api_Value.zero) h trivial rfl rfl rfl ?_
      intro b13 H14 h
      refine GL.val trivial rfl (OV.assign (v := .int .i64 x2) rfl) ?_
      refine GL.storeT (p := (b13, 0)) (vs := T_api_Value.c x11) h trivial rfl rfl rfl rfl ?_
      intro H15 h
      refine GL.nil ?_
      refine GC.seq ?_
      refine GC.region ?_
      refine GL.val trivial rfl (OV.move (v := slv p_s2) rfl) ?_
      refine GL.val trivial rfl (OV.move (v := .int .i64 x2) rfl) ?_
      obtain ⟨p16, ha17, hb18, hc19, hd20, h⟩ := h
      refine GL.val trivial rfl (OV.indexAddr (s := p_s2) rfl rfl rfl rfl ha17 hb18 hc19 hd20) ?_
      obtain ⟨x21, hr22, h⟩ := h
      refine GL.val trivial rfl (OV.loadT (p := (p16.1, p16.2 + (x2 : Int).toNat * 4)) (cs := T_api_Value.c x21) rfl rfl rfl hr22) ?_
      refine GL.alloc (cs := T_api_Value.c T_api_Value.zero) h trivial rfl rfl rfl ?_
      intro b23 H24 h
      refine GL.storeT (p := (b23, 0)) (vs := T_api_Value.c x21) h trivial rfl rfl rfl rfl ?_
      intro H25 h
      refine GL.nil ?_
      refine GC.seq ?_
      refine GC.region ?_
      refine GL.val trivial rfl (OV.move (v := p_eq) rfl) ?_
      obtain ⟨x26, hr27, h⟩ := h
      refine GL.val trivial rfl (OV.loadT (p := (b13, 0)) (cs := T_api_Value.c x26) rfl rfl rfl hr27) ?_
      obtain ⟨x28, hr29, h⟩ := h
      refine GL.val trivial rfl (OV.loadT (p := (b23, 0)) (cs := T_api_Value.c x28) rfl rfl rfl hr29) ?_
      refine GL.callU (xv := p_eq) (vs := [.agg (T_api_Value.c x26).toArray, .agg (T_api_Value.c x28).toArray]) h trivial rfl rfl rfl ?_
      rintro _ H31 ⟨r30, rfl, h⟩
      refine GL.val trivial rfl (OV.not rfl) ?_
      refine GL.nil ?_
      refine GC.cond (b := !r30) rfl (fun hc32 => ?_) (fun hc32 => ?_)
      · replace h := And.left h hc32
        refine GC.seq ?_
        refine GC.region ?_
        refine GL.val trivial rfl (OV.assign (v := .bool false) rfl) ?_
        refine GL.nil ?_
        exact GC.ret (fun _ _ hf hs => post_tmp1 rfl rfl hf hs ⟨false, rfl, h⟩)
      · replace h := And.right h hc32
        refine GC.skip_to (fun _ _ h => h) ?_
        refine GC.region ?_
        refine GL.val trivial rfl (OV.ibin (v := .int .i64 (w .i64 (x2 + 1))) rfl rfl rfl) ?_
        refine GL.val trivial rfl (OV.move (v := .int .i64 (w .i64 (x2 + 1))) rfl) ?_
        exact GL.jump (fun _ _ h => h) (w .i64 (x2 + 1)) h ⟨rfl, rfl, rfl, rfl, rfl, trivial⟩
    · replace h := And.right h hc5
      refine GC.exit_to (fun _ _ h => h) ?_
      refine GC.seq ?_
      refine GC.region ?_
      refine GL.val trivial rfl (OV.assign (v := .bool true) rfl) ?_
      refine GL.nil ?_
      exact GC.ret (fun _ _ hf hs => post_tmp1 rfl rfl hf hs ⟨true, rfl, h⟩)
end Sx
end

noncomputable section
set_option linter.unusedVariables false
set_option linter.unusedSimpArgs false
namespace Sx
open Go Go.Proofs
theorem xawakeIdx : ∀ f, xawakeIds.idx = some f → ExtOk Tryz.prog f Extern.BytealgIndexByte.indexByte := fun f h => by
  cases h; exact ⟨⟨_, Tryz.func253, by kernel_rfl, by kernel_rfl, by kernel_rfl, by kernel_rfl⟩⟩
theorem xawakeCnt : ∀ f, xawakeIds.cnt = some f → ExtOk Tryz.prog f Extern.BytealgCount.count := fun f h => by
  cases h
theorem xawakeNoR : ∀ (f : FuncId) (fn : Func), Tryz.prog.funcs[f]? = some fn → (fn.name == "runtime.NumGoroutine") = false := fun f fn h => by
  have h1 := List.all_eq_true.1 xawakeNo fn (by
    rw [← Array.getElem?_toList] at h
    exact List.mem_of_getElem? h)
  simpa using h1
section
variable {C : Ctx}
theorem xawakeH0 : ∀ m ∈ xawakeTab0, MemoS Tryz.prog C m := fun m h => by cases h
theorem awake_ok (hC : CntC C) {K : Bool → Heap → Prop} {H : Heap} (k : ∀ H2, H.le H2 → K true H2) : c_law06_awake C K H :=
  (ev_closed xawakeIdx xawakeCnt (or_ok (bld_ok xBld) (or_ok (bld_ok xBldW) (or_ok (cntP_ok hC) (memos_ok (xawakeH0))))) xawakeNoR xawakeFol xawakeTrue H).mono fun u H2 ⟨hu, hle⟩ => ⟨true, hu, k H2 hle⟩
end
end Sx
end

noncomputable section
set_option linter.unusedVariables false
set_option linter.unusedSimpArgs false
namespace Sx
open Go
inductive V where
  | mk (k n : Int) (s : Str) (l : List V)

namespace V
def k : V → Int | .mk k _ _ _ => k
def n : V → Int | .mk _ n _ _ => n
def s : V → Str | .mk _ _ s _ => s
def l : V → List V | .mk _ _ _ l => l
end V
mutual
def vsize : V → Nat
  | .mk _ _ _ l => vsizes l + 1
def vsizes : List V → Nat
  | [] => 0
  | v :: l => vsize v + vsizes l
end
theorem vsize_mem : ∀ {l : List V} {v : V}, v ∈ l → vsize v ≤ vsizes l
  | w :: l, v, h => by
    simp only [vsizes]
    rcases List.mem_cons.1 h with rfl | h
    · omega
    · have := vsize_mem h; omega
theorem vsize_l {v w : V} (h : w ∈ v.l) : vsize w < vsize v := by
  obtain ⟨k, n, s, l⟩ := v
  have := vsize_mem (show w ∈ l from h)
  simp only [vsize]; omega
/-- by how great a value is -/
theorem V.rec_ {P : V → Prop} (h : ∀ v, (∀ w ∈ v.l, P w) → P v) (v : V) : P v := by
  have : ∀ n v, vsize v ≤ n → P v := by
    intro n
    induction n with
    | zero => intro v hv; obtain ⟨k, n, s, l⟩ := v; simp [vsize] at hv
    | succ n ih => intro v hv; exact h v fun w hw => ih w (by have := vsize_l hw; omega)
  exact this _ v (Nat.le_refl _)

mutual
def dep : V → Nat
  | .mk _ _ _ l => deps l + 1
def deps : List V → Nat
  | [] => 0
  | v :: l => max (dep v) (deps l)
end
mutual
def sameV : V → V → Bool
  | .mk k n s l, .mk k' n' s' l' => k == k' && n == n' && decide (s = s') && sameVs l l'
def sameVs : List V → List V → Bool
  | [], [] => true
  | v :: l, w :: m => sameV v w && sameVs l m
  | _, _ => false
end
theorem sameV_eq {v w : V} (h : sameV v w = true) : v = w := by
  have key : ∀ v : V, ∀ w, sameV v w = true → v = w := by
    refine V.rec_ (P := fun v => ∀ w, sameV v w = true → v = w) fun v ih w h => ?_
    obtain ⟨k, n, s, l⟩ := v
    obtain ⟨k', n', s', l'⟩ := w
    simp only [sameV, Bool.and_eq_true, beq_iff_eq, decide_eq_true_eq] at h
    obtain ⟨⟨⟨rfl, rfl⟩, rfl⟩, h⟩ := h
    have : ∀ (l m : List V), (∀ v ∈ l, ∀ w, sameV v w = true → v = w) → sameVs l m = true → l = m := by
      intro l
      induction l with
      | nil => intro m _ h; cases m with
        | nil => rfl
        | cons _ _ => simp [sameVs] at h
      | cons v l ihl =>
        intro m hh h
        cases m with
        | nil => simp [sameVs] at h
        | cons w m =>
          simp only [sameVs, Bool.and_eq_true] at h
          rw [hh v (List.mem_cons_self ..) w h.1, ihl m (fun v hv => hh v (List.mem_cons_of_mem _ hv)) h.2]
    rw [this l l' ih h]
  exact key v w h
mutual
theorem sameV_refl : ∀ v : V, sameV v v = true
  | .mk k n s l => by simp [sameV, sameVs_refl l]
theorem sameVs_refl : ∀ l : List V, sameVs l l = true
  | [] => rfl
  | v :: l => by simp [sameVs, sameV_refl v, sameVs_refl l]
end
theorem sameV_iff {v w : V} : sameV v w = true ↔ v = w := ⟨sameV_eq, fun h => h ▸ sameV_refl v⟩
end Sx
end

noncomputable section
set_option linter.unusedVariables false
set_option linter.unusedSimpArgs false
set_option maxRecDepth 10000
namespace Sx
open Go Go.Proofs
theorem flat_get {α β : Type} (f : α → List β) (z : Nat) (hz : ∀ x, (f x).length = z) : ∀ (l : List α) (i : Nat) (x : α), l[i]? = some x → ∀ (j : Nat) (v : β), (f x)[j]? = some v → (l.flatMap f)[i * z + j]? = some v
  | [], i, x, h, j, v, hv => by simp at h
  | y :: l, 0, x, h, j, v, hv => by
    simp at h; subst h
    rw [List.flatMap_cons, Nat.zero_mul, Nat.zero_add, List.getElem?_append_left (List.getElem?_eq_some_iff.1 hv).1]; exact hv
  | y :: l, i + 1, x, h, j, v, hv => by
    have := flat_get f z hz l i x (by simpa using h) j v hv
    rw [List.flatMap_cons, List.getElem?_append_right (by rw [hz, Nat.add_mul]; omega), hz]
    rw [show (i + 1) * z + j - z = i * z + j by rw [Nat.add_mul]; omega]; exact this

abbrev TV := T_api_Value
theorem TV.c_len (x : TV) : (T_api_Value.c x).length = 4 := rfl

mutual
def VIs (H : Heap) : V → TV → Prop
  | .mk k n s l, x => x.Kind = k ∧ x.N = n ∧ x.S = s ∧ ∃ xs : List TV, rdsl H x.L (xs.flatMap T_api_Value.c) ∧ x.L.len = xs.length ∧ VsAre H l xs
def VsAre (H : Heap) : List V → List TV → Prop
  | [], [] => True
  | v :: l, x :: xs => VIs H v x ∧ VsAre H l xs
  | [], _ :: _ => False
  | _ :: _, [] => False
end
/-- a row of values -/
def VRow (H : Heap) (t : Sl) (l : List V) : Prop := ∃ xs : List TV, rdsl H t (xs.flatMap T_api_Value.c) ∧ t.len = xs.length ∧ VsAre H l xs
theorem VIs_iff {H : Heap} {v : V} {x : TV} : VIs H v x ↔ x.Kind = v.k ∧ x.N = v.n ∧ x.S = v.s ∧ VRow H x.L v.l := by obtain ⟨k, n, s, l⟩ := v; rfl
theorem VsAre.len {H : Heap} : ∀ {l : List V} {xs : List TV}, VsAre H l xs → l.length = xs.length
  | [], [], _ => rfl
  | v :: l, x :: xs, h => by have := VsAre.len h.2; simp [this]
theorem VsAre.get {H : Heap} : ∀ {l : List V} {xs : List TV}, VsAre H l xs → ∀ (i : Nat) (v : V) (x : TV), l[i]? = some v → xs[i]? = some x → VIs H v x
  | [], [], _, i, v, x, h, _ => by simp at h
  | v :: l, x :: xs, h, 0, v', x', h1, h2 => by simp at h1 h2; subst h1; subst h2; exact h.1
  | v :: l, x :: xs, h, i + 1, v', x', h1, h2 => VsAre.get h.2 i v' x' (by simpa using h1) (by simpa using h2)
theorem VsAre.of {H : Heap} : ∀ {l : List V} {xs : List TV}, l.length = xs.length → (∀ (i : Nat) (v : V) (x : TV), l[i]? = some v → xs[i]? = some x → VIs H v x) → VsAre H l xs
  | [], [], _, _ => trivial
  | v :: l, x :: xs, h, hg => ⟨hg 0 v x rfl rfl, VsAre.of (by simpa using h) fun i v' x' h1 h2 => hg (i + 1) v' x' (by simpa using h1) (by simpa using h2)⟩
mutual
theorem VIs.le {A B : Heap} (h : A.le B) : ∀ {v : V} {x : TV}, VIs A v x → VIs B v x
  | .mk k n s l, x, ⟨h1, h2, h3, xs, h4, h5, h6⟩ => ⟨h1, h2, h3, xs, rdsl_le h h4, h5, VsAre.le h h6⟩
theorem VsAre.le {A B : Heap} (h : A.le B) : ∀ {l : List V} {xs : List TV}, VsAre A l xs → VsAre B l xs
  | [], [], _ => trivial
  | v :: l, x :: xs, ⟨h1, h2⟩ => ⟨VIs.le h h1, VsAre.le h h2⟩
end
theorem VRow.le {A B : Heap} {t : Sl} {l : List V} (h : VRow A t l) (hle : A.le B) : VRow B t l := by
  obtain ⟨xs, h1, h2, h3⟩ := h
  exact ⟨xs, rdsl_le hle h1, h2, h3.le hle⟩
theorem VRow.len {H : Heap} {t : Sl} {l : List V} (h : VRow H t l) : t.len = l.length := by
  obtain ⟨xs, h1, h2, h3⟩ := h
  rw [h2, h3.len]
theorem VIs.kind {H : Heap} {v : V} {x : TV} (h : VIs H v x) : x.Kind = v.k := (VIs_iff.1 h).1
theorem VIs.num {H : Heap} {v : V} {x : TV} (h : VIs H v x) : x.N = v.n := (VIs_iff.1 h).2.1
theorem VIs.txt {H : Heap} {v : V} {x : TV} (h : VIs H v x) : x.S = v.s := (VIs_iff.1 h).2.2.1
theorem VIs.row {H : Heap} {v : V} {x : TV} (h : VIs H v x) : VRow H x.L v.l := (VIs_iff.1 h).2.2.2

/-- one of a row's values -/
theorem VRow.ld {A H : Heap} {t : Sl} {l : List V} (h : VRow A t l) (hle : A.le H) {i : Nat} {x : Int} {K : TV → Prop} (hx : x = i) (hi : i < l.length) (k : ∀ y, VIs A l[i] y → K y) : ixa t x fun p => ldT H T_api_Value.c (p.1, p.2 + x.toNat * 4) K := by
  have hl := h.len
  obtain ⟨xs, h1, h2, h3⟩ := h
  have hi2 : i < xs.length := by omega
  have hg := List.getElem?_eq_getElem hi2
  subst hx
  refine ixa_of (rdsl_le hle h1) (by omega) (by omega) (fun e => ?_) fun p _ hp => ⟨xs[i], ?_, k _ (h3.get i _ _ (List.getElem?_eq_getElem hi) hg)⟩
  · have := flat_get T_api_Value.c 4 TV.c_len xs i _ hg 0 _ rfl
    rw [e] at this; simp at this
  · refine rds_of fun j v hj => ?_
    have := rds_get hp _ _ (flat_get T_api_Value.c 4 TV.c_len xs i _ hg j v hj)
    rw [show p.2 + (i : Int).toNat * 4 + j = p.2 + (i * 4 + j) by omega]; exact this

mutual
def VB : V → Prop
  | .mk k n s l => (0 ≤ k ∧ k ≤ 255) ∧ (-9223372036854775808 ≤ n ∧ n ≤ 9223372036854775807) ∧ s.length ≤ 140737488355328 ∧ l.length ≤ 140737488355328 ∧ VBs l
def VBs : List V → Prop
  | [] => True
  | v :: l => VB v ∧ VBs l
end
theorem VBs.mem : ∀ {l : List V}, VBs l → ∀ {v}, v ∈ l → VB v
  | w :: l, h, v, hv => by
    rcases List.mem_cons.1 hv with rfl | hv
    · exact h.1
    · exact VBs.mem h.2 hv
theorem VBs.of : ∀ {l : List V}, (∀ v ∈ l, VB v) → VBs l
  | [], _ => trivial
  | v :: l, h => ⟨h v (List.mem_cons_self ..), VBs.of fun w hw => h w (List.mem_cons_of_mem _ hw)⟩
theorem VB.k {v : V} (h : VB v) : 0 ≤ v.k ∧ v.k ≤ 255 := by obtain ⟨k, n, s, l⟩ := v; exact h.1
theorem VB.n {v : V} (h : VB v) : -9223372036854775808 ≤ v.n ∧ v.n ≤ 9223372036854775807 := by obtain ⟨k, n, s, l⟩ := v; exact h.2.1
theorem VB.s {v : V} (h : VB v) : v.s.length ≤ 140737488355328 := by obtain ⟨k, n, s, l⟩ := v; exact h.2.2.1
theorem VB.l {v : V} (h : VB v) : v.l.length ≤ 140737488355328 := by obtain ⟨k, n, s, l⟩ := v; exact h.2.2.2.1
theorem VB.ls {v : V} (h : VB v) : VBs v.l := by obtain ⟨k, n, s, l⟩ := v; exact h.2.2.2.2
theorem VB.at {v : V} (h : VB v) {i : Nat} (hi : i < v.l.length) : VB v.l[i] := h.ls.mem (List.getElem_mem hi)

section
variable {B : Heap} {b : Nat} {m : Bool} {x : TV}
theorem rd_box (h : B b = some (m, .row (T_api_Value.c x))) : rd B (b, 0) = some (.int .u8 x.Kind) ∧ rd B (b, 1) = some (.int .i64 x.N) ∧ rd B (b, 2) = some (sv x.S) ∧ rd B (b, 3) = some (slv x.L) :=
  ⟨by rw [rd_row h]; rfl, by rw [rd_row h]; rfl, by rw [rd_row h]; rfl, by rw [rd_row h]; rfl⟩
theorem bxK {K : Int → Prop} (h : B b = some (m, .row (T_api_Value.c x))) (k : K x.Kind) : ldI B .u8 ((b, 0).1, (b, 0).2 + 0) K := ⟨_, (rd_box h).1, k⟩
theorem bxN {K : Int → Prop} (h : B b = some (m, .row (T_api_Value.c x))) (k : K x.N) : ldI B .i64 ((b, 0).1, (b, 0).2 + 1) K := ⟨_, (rd_box h).2.1, k⟩
theorem bxS {K : Str → Prop} (h : B b = some (m, .row (T_api_Value.c x))) (k : K x.S) : ldS B ((b, 0).1, (b, 0).2 + 2) K := ⟨_, (rd_box h).2.2.1, k⟩
theorem bxL {K : Sl → Prop} (h : B b = some (m, .row (T_api_Value.c x))) (k : K x.L) : ldL B ((b, 0).1, (b, 0).2 + 3) K := ⟨_, (rd_box h).2.2.2, k⟩
end
section
variable {C : Ctx} {H : Heap}
end
end Sx
end

noncomputable section
set_option linter.unusedVariables false
set_option linter.unusedSimpArgs false
set_option maxRecDepth 10000
namespace Sx
open Go Go.Proofs
inductive TyV where
  | mk (n : Str) (a : List TyV)
inductive ExV where
  | mk (k : Int) (n : Str) (v : V) (a : List ExV)
structure LiV where
  k : Int
  r : Str
  a : List ExV
structure FdV where
  n : Str
  t : TyV
structure CnV where
  n : Str
  f : List FdV
structure TdV where
  p : Bool
  n : Str
  ps : List Str
  cs : List CnV
structure RdV where
  p : Bool
  i : Bool
  n : Str
  f : List FdV
structure RuV where
  r : Str
  a : List ExV
  g : List Str
  b : List LiV
structure NeV where
  n : Str
  b : List LiV
structure MoV where
  n : Str
  im : List Str
  ty : List TdV
  re : List RdV
  ru : List RuV
  ne : List NeV
/-- a list in memory -/
def SlIs {α β : Type} (R : α → β → Prop) (c : β → List Value) (A : Heap) (s : Sl) (l : List α) : Prop :=
  ∃ xs : List β, rdsl A s (xs.flatMap c) ∧ s.len = xs.length ∧ l.length = xs.length ∧ l.length ≤ 140737488355328 ∧ ∀ (i : Nat) (v : α) (x : β), l[i]? = some v → xs[i]? = some x → R v x
mutual
def TyIs (H : Heap) : TyV → T_api_Type → Prop
  | .mk n a, x => x.Name = n ∧ ∃ xs : List T_api_Type, rdsl H x.Args (xs.flatMap T_api_Type.c) ∧ x.Args.len = xs.length ∧ a.length ≤ 140737488355328 ∧ TysAre H a xs
def TysAre (H : Heap) : List TyV → List T_api_Type → Prop
  | [], [] => True
  | v :: l, x :: xs => TyIs H v x ∧ TysAre H l xs
  | [], _ :: _ => False
  | _ :: _, [] => False
end
mutual
def ExIs (H : Heap) : ExV → T_api_Expr → Prop
  | .mk k n v a, x => x.Kind = k ∧ x.Name = n ∧ VIs H v x.Value_ ∧ VB v ∧ ∃ xs : List T_api_Expr, rdsl H x.Args (xs.flatMap T_api_Expr.c) ∧ x.Args.len = xs.length ∧ a.length ≤ 140737488355328 ∧ ExsAre H a xs
def ExsAre (H : Heap) : List ExV → List T_api_Expr → Prop
  | [], [] => True
  | v :: l, x :: xs => ExIs H v x ∧ ExsAre H l xs
  | [], _ :: _ => False
  | _ :: _, [] => False
end
def TyV.n : TyV → Str | .mk n _ => n
def TyV.a : TyV → List TyV | .mk _ a => a
def ExV.k : ExV → Int | .mk k _ _ _ => k
def ExV.n : ExV → Str | .mk _ n _ _ => n
def ExV.v : ExV → V | .mk _ _ v _ => v
def ExV.a : ExV → List ExV | .mk _ _ _ a => a
theorem TysAre.iff {H : Heap} : ∀ {l : List TyV} {xs : List T_api_Type}, TysAre H l xs ↔ l.length = xs.length ∧ ∀ (i : Nat) (v : TyV) (x : T_api_Type), l[i]? = some v → xs[i]? = some x → TyIs H v x
  | [], [] => by simp [TysAre]
  | [], _ :: _ => by simp [TysAre]
  | _ :: _, [] => by simp [TysAre]
  | v :: l, x :: xs => by
    simp only [TysAre, TysAre.iff (l := l) (xs := xs), List.length_cons]
    constructor
    · rintro ⟨h1, h2, h3⟩
      refine ⟨by omega, fun i v' x' hv hx => ?_⟩
      cases i with
      | zero => simp at hv hx; subst hv; subst hx; exact h1
      | succ i => exact h3 i v' x' (by simpa using hv) (by simpa using hx)
    · rintro ⟨h1, h2⟩
      exact ⟨h2 0 v x rfl rfl, by omega, fun i v' x' hv hx => h2 (i + 1) v' x' (by simpa using hv) (by simpa using hx)⟩
theorem ExsAre.iff {H : Heap} : ∀ {l : List ExV} {xs : List T_api_Expr}, ExsAre H l xs ↔ l.length = xs.length ∧ ∀ (i : Nat) (v : ExV) (x : T_api_Expr), l[i]? = some v → xs[i]? = some x → ExIs H v x
  | [], [] => by simp [ExsAre]
  | [], _ :: _ => by simp [ExsAre]
  | _ :: _, [] => by simp [ExsAre]
  | v :: l, x :: xs => by
    simp only [ExsAre, ExsAre.iff (l := l) (xs := xs), List.length_cons]
    constructor
    · rintro ⟨h1, h2, h3⟩
      refine ⟨by omega, fun i v' x' hv hx => ?_⟩
      cases i with
      | zero => simp at hv hx; subst hv; subst hx; exact h1
      | succ i => exact h3 i v' x' (by simpa using hv) (by simpa using hx)
    · rintro ⟨h1, h2⟩
      exact ⟨h2 0 v x rfl rfl, by omega, fun i v' x' hv hx => h2 (i + 1) v' x' (by simpa using hv) (by simpa using hx)⟩
abbrev TyL (A : Heap) := SlIs (TyIs A) T_api_Type.c A
abbrev ExL (A : Heap) := SlIs (ExIs A) T_api_Expr.c A
theorem TyIs_iff {H : Heap} {v : TyV} {x : T_api_Type} : TyIs H v x ↔ x.Name = v.n ∧ TyL H x.Args v.a := by
  obtain ⟨n, a⟩ := v
  simp only [TyIs, TyV.n, TyV.a, TyL, SlIs, TysAre.iff]
  constructor
  · rintro ⟨h1, xs, h2, h3, h4, h5, h6⟩; exact ⟨h1, xs, h2, h3, h5, h4, h6⟩
  · rintro ⟨h1, xs, h2, h3, h5, h4, h6⟩; exact ⟨h1, xs, h2, h3, h4, h5, h6⟩
theorem ExIs_iff {H : Heap} {v : ExV} {x : T_api_Expr} : ExIs H v x ↔ x.Kind = v.k ∧ x.Name = v.n ∧ VIs H v.v x.Value_ ∧ VB v.v ∧ ExL H x.Args v.a := by
  obtain ⟨k, n, u, a⟩ := v
  simp only [ExIs, ExV.k, ExV.n, ExV.v, ExV.a, ExL, SlIs, ExsAre.iff]
  constructor
  · rintro ⟨h1, h2, h3, h4, xs, h5, h6, h7, h8, h9⟩; exact ⟨h1, h2, h3, h4, xs, h5, h6, h8, h7, h9⟩
  · rintro ⟨h1, h2, h3, h4, xs, h5, h6, h8, h7, h9⟩; exact ⟨h1, h2, h3, h4, xs, h5, h6, h7, h8, h9⟩
def StL (A : Heap) : Sl → List Str → Prop := SlIs (fun (v : Str) (x : Str) => x = v) (fun x => [sv x]) A
def FdIs (A : Heap) (v : FdV) (x : T_api_FieldDef) : Prop := x.Name = v.n ∧ TyIs A v.t x.Type_
abbrev FdL (A : Heap) := SlIs (FdIs A) T_api_FieldDef.c A
def CnIs (A : Heap) (v : CnV) (x : T_api_ConsDef) : Prop := x.Name = v.n ∧ FdL A x.Fields v.f
abbrev CnL (A : Heap) := SlIs (CnIs A) T_api_ConsDef.c A
def TdIs (A : Heap) (v : TdV) (x : T_api_TypeDef) : Prop := x.Pub = v.p ∧ x.Name = v.n ∧ StL A x.Params v.ps ∧ CnL A x.Cons v.cs
abbrev TdL (A : Heap) := SlIs (TdIs A) T_api_TypeDef.c A
def RdIs (A : Heap) (v : RdV) (x : T_api_RelDef) : Prop := x.Pub = v.p ∧ x.Input = v.i ∧ x.Name = v.n ∧ FdL A x.Fields v.f
abbrev RdL (A : Heap) := SlIs (RdIs A) T_api_RelDef.c A
def LiIs (A : Heap) (v : LiV) (x : T_api_Literal) : Prop := x.Kind = v.k ∧ x.Rel = v.r ∧ ExL A x.Args v.a
abbrev LiL (A : Heap) := SlIs (LiIs A) T_api_Literal.c A
def RuIs (A : Heap) (v : RuV) (x : T_api_Rule) : Prop := x.Rel = v.r ∧ ExL A x.Args v.a ∧ StL A x.Aggs v.g ∧ LiL A x.Body v.b
abbrev RuL (A : Heap) := SlIs (RuIs A) T_api_Rule.c A
def NeIs (A : Heap) (v : NeV) (x : T_api_Never) : Prop := x.Name = v.n ∧ LiL A x.Body v.b
abbrev NeL (A : Heap) := SlIs (NeIs A) T_api_Never.c A
def ImIs (v : Str) (x : T_api_Import) : Prop := x.Name = v
abbrev ImL (A : Heap) := SlIs ImIs T_api_Import.c A
def MoIs (A : Heap) (v : MoV) (x : T_api_Module) : Prop := x.Name = v.n ∧ ImL A x.Imports v.im ∧ TdL A x.Types v.ty ∧ RdL A x.Rels v.re ∧ RuL A x.Rules v.ru ∧ NeL A x.Nevers v.ne

section
variable {α β : Type} {R : α → β → Prop} {c : β → List Value} {A H : Heap} {s : Sl} {l : List α}
theorem SlIs.len (h : SlIs R c A s l) : s.len = l.length := by obtain ⟨xs, h1, h2, h3, _⟩ := h; omega
theorem SlIs.bd (h : SlIs R c A s l) : l.length ≤ 140737488355328 := by obtain ⟨xs, h1, h2, h3, h4, _⟩ := h; exact h4
theorem SlIs.at_ (h : SlIs R c A s l) (hle : A.le H) {z : Nat} (hz : ∀ x, (c x).length = z) (hz0 : 0 < z) {i : Nat} {x : Int} {K : Nat × Nat → Prop} (hx : x = i) (hi : i < l.length) (k : ∀ p y, R l[i] y → (∀ j v, (c y)[j]? = some v → rd H (p.1, p.2 + x.toNat * z + j) = some v) → K p) : ixa s x K := by
  obtain ⟨xs, h1, h2, h3, _, h4⟩ := h
  have hi2 : i < xs.length := by omega
  have hg := List.getElem?_eq_getElem hi2
  subst hx
  refine ixa_of (rdsl_le hle h1) (by omega) (by omega) (fun e => ?_) fun p _ hp => k p xs[i] (h4 i _ _ (List.getElem?_eq_getElem hi) hg) fun j v hj => ?_
  · have := flat_get c z hz xs i _ hg 0 ((c xs[i])[0]'(by rw [hz]; exact hz0)) (by rw [List.getElem?_eq_getElem])
    rw [e] at this; simp at this
  · have := rds_get hp _ _ (flat_get c z hz xs i _ hg j v hj)
    have e0 : (i : Int).toNat = i := by omega
    rw [e0, Nat.add_assoc]; exact this
theorem SlIs.ld (h : SlIs R c A s l) (hle : A.le H) {z : Nat} (hz : ∀ x, (c x).length = z) (hz0 : 0 < z) {i : Nat} {x : Int} {K : β → Prop} (hx : x = i) (hi : i < l.length) (k : ∀ y, R l[i] y → K y) : ixa s x fun p => ldT H c (p.1, p.2 + x.toNat * z) K :=
  h.at_ hle hz hz0 hx hi fun p y hy hr => ⟨y, rds_of fun j v hj => hr j v hj, k y hy⟩
/-- all so far alike -/
theorem take_eq {l m : List α} {i : Nat} (h1 : i < l.length) (h2 : i < m.length) (h : l.take i = m.take i) (he : l[i] = m[i]) : l.take (i + 1) = m.take (i + 1) := by
  rw [List.take_add_one, List.take_add_one, h, List.getElem?_eq_getElem h1, List.getElem?_eq_getElem h2, he]
theorem get_ne {l m : List α} {i : Nat} (h1 : i < l.length) (h2 : i < m.length) (he : l[i] ≠ m[i]) : l ≠ m := fun e => by subst e; exact he rfl
theorem take_all {l m : List α} {i : Nat} (h1 : i = l.length) (h2 : l.length = m.length) (h : l.take i = m.take i) : l = m := by
  rw [h1, List.take_length, h2, List.take_length] at h; exact h
end
section
variable {α β : Type} {R R2 : α → β → Prop} {c : β → List Value} {A B : Heap} {s : Sl} {l : List α}
theorem SlIs.le (hle : A.le B) (h : SlIs R c A s l) (hR : ∀ v ∈ l, ∀ x, R v x → R2 v x) : SlIs R2 c B s l := by
  obtain ⟨xs, h1, h2, h3, h4, h5⟩ := h
  exact ⟨xs, rdsl_le hle h1, h2, h3, h4, fun i v x hv hx => hR v (List.mem_of_getElem? hv) x (h5 i v x hv hx)⟩
end
theorem TyV.rec_ {P : TyV → Prop} (h : ∀ v, (∀ w ∈ v.a, P w) → P v) : ∀ v, P v
  | .mk n a => h _ fun w hw => by
    have : sizeOf w < sizeOf a := List.sizeOf_lt_of_mem hw
    exact TyV.rec_ h w
termination_by v => sizeOf v
decreasing_by simp_wf; have : sizeOf w < sizeOf a := List.sizeOf_lt_of_mem hw; omega
theorem ExV.rec_ {P : ExV → Prop} (h : ∀ v, (∀ w ∈ v.a, P w) → P v) : ∀ v, P v
  | .mk k n u a => h _ fun w hw => by
    have : sizeOf w < sizeOf a := List.sizeOf_lt_of_mem hw
    exact ExV.rec_ h w
termination_by v => sizeOf v
decreasing_by simp_wf; have : sizeOf w < sizeOf a := List.sizeOf_lt_of_mem hw; omega
theorem TyIs.le {A B : Heap} (hle : A.le B) : ∀ v : TyV, ∀ x, TyIs A v x → TyIs B v x := by
  refine TyV.rec_ fun v ih x h => ?_
  rw [TyIs_iff] at h ⊢
  exact ⟨h.1, h.2.le hle ih⟩
theorem ExIs.le {A B : Heap} (hle : A.le B) : ∀ v : ExV, ∀ x, ExIs A v x → ExIs B v x := by
  refine ExV.rec_ fun v ih x h => ?_
  rw [ExIs_iff] at h ⊢
  exact ⟨h.1, h.2.1, h.2.2.1.le hle, h.2.2.2.1, h.2.2.2.2.le hle ih⟩
section
variable {A B : Heap} (hle : A.le B)
include hle
theorem StL.le {s : Sl} {l : List Str} (h : StL A s l) : StL B s l := SlIs.le hle h fun _ _ _ h => h
theorem FdIs.le {v : FdV} {x} (h : FdIs A v x) : FdIs B v x := ⟨h.1, TyIs.le hle _ _ h.2⟩
theorem CnIs.le {v : CnV} {x} (h : CnIs A v x) : CnIs B v x := ⟨h.1, h.2.le hle fun _ _ _ h => FdIs.le hle h⟩
theorem TdIs.le {v : TdV} {x} (h : TdIs A v x) : TdIs B v x := ⟨h.1, h.2.1, StL.le hle h.2.2.1, h.2.2.2.le hle fun _ _ _ h => CnIs.le hle h⟩
theorem RdIs.le {v : RdV} {x} (h : RdIs A v x) : RdIs B v x := ⟨h.1, h.2.1, h.2.2.1, h.2.2.2.le hle fun _ _ _ h => FdIs.le hle h⟩
theorem LiIs.le {v : LiV} {x} (h : LiIs A v x) : LiIs B v x := ⟨h.1, h.2.1, h.2.2.le hle fun v _ x h => ExIs.le hle v x h⟩
theorem RuIs.le {v : RuV} {x} (h : RuIs A v x) : RuIs B v x := ⟨h.1, h.2.1.le hle fun v _ x h => ExIs.le hle v x h, StL.le hle h.2.2.1, h.2.2.2.le hle fun _ _ _ h => LiIs.le hle h⟩
theorem NeIs.le {v : NeV} {x} (h : NeIs A v x) : NeIs B v x := ⟨h.1, h.2.le hle fun _ _ _ h => LiIs.le hle h⟩
theorem MoIs.le {v : MoV} {x} (h : MoIs A v x) : MoIs B v x := ⟨h.1, h.2.1.le hle fun _ _ _ h => h, h.2.2.1.le hle fun _ _ _ h => TdIs.le hle h, h.2.2.2.1.le hle fun _ _ _ h => RdIs.le hle h, h.2.2.2.2.1.le hle fun _ _ _ h => RuIs.le hle h, h.2.2.2.2.2.le hle fun _ _ _ h => NeIs.le hle h⟩
end
end Sx
end

noncomputable section
set_option linter.unusedVariables false
set_option linter.unusedSimpArgs false
set_option maxRecDepth 10000
namespace Sx
open Go Go.Proofs
open Classical in
noncomputable def sm {α : Type} (v w : α) : Bool := decide (v = w)
theorem sm_t {α : Type} {v w : α} : sm v w = true ↔ v = w := by unfold sm; simp
theorem sm_yes {α : Type} {v w : α} (h : v = w) : sm v w = true := sm_t.2 h
theorem sm_no {α : Type} {v w : α} (h : ¬ v = w) : sm v w = false := by
  cases hs : sm v w with
  | false => rfl
  | true => exact absurd (sm_t.1 hs) h
section
variable {C : Ctx} {H : Heap}
theorem box2 {cx cy : List Value} {K : Nat → Nat → Heap → Prop} (k : ∀ b1 b3 H4, H.le H4 → H4 b1 = some (true, .row cx) → H4 b3 = some (true, .row cy) → K b1 b3 H4) : nw cx (fun b1 H2 => nw cy (fun b3 H4 => K b1 b3 H4) H2) H := by
  intro b1 n1 b3 n3
  have ne : b1 ≠ b3 := fun e => by rw [e, Heap.put_same] at n3; cases n3
  exact k b1 b3 _ ((Heap.le_put n1).trans (Heap.le_put n3)) (by rw [Heap.put_ne _ _ _ ne, Heap.put_same]) (Heap.put_same ..)
theorem nwT {b : Nat} {cx c0 : List Value} {K : Heap → Prop} (hl : cx.length = c0.length) (k : K (H.put b (.row cx))) : stT (b, 0) cx K (H.put b (.row c0)) := by
  refine ⟨_, Heap.put_same .., by rw [hl]; simp, ?_⟩
  rw [Heap.put_put]
  have e : splice c0 (b, 0).2 cx = cx := by
    unfold splice
    rw [List.take_zero, List.nil_append, List.drop_of_length_le (by rw [hl]; simp), List.append_nil]
  rw [e]; exact k
theorem bxT {β : Type} {c : β → List Value} {b : Nat} {m : Bool} {x : β} {K : β → Prop} (h : H b = some (m, .row (c x))) (k : K x) : ldT H c (b, 0) K := ⟨x, rds_row h fun j v hj => by rw [Nat.zero_add]; exact hj, k⟩
theorem fS {b j : Nat} {m : Bool} {cs : List Value} {t : Str} {K : Str → Prop} (h : H b = some (m, .row cs)) (hj : cs[j]? = some (sv t)) (k : K t) : ldS H ((b, 0).1, (b, 0).2 + j) K := ⟨t, by rw [rd_row h, Nat.zero_add]; exact hj, k⟩
theorem fI {b j : Nat} {m : Bool} {cs : List Value} {q : IntKind} {t : Int} {K : Int → Prop} (h : H b = some (m, .row cs)) (hj : cs[j]? = some (.int q t)) (k : K t) : ldI H q ((b, 0).1, (b, 0).2 + j) K := ⟨t, by rw [rd_row h, Nat.zero_add]; exact hj, k⟩
theorem fB {b j : Nat} {m : Bool} {cs : List Value} {t : Bool} {K : Bool → Prop} (h : H b = some (m, .row cs)) (hj : cs[j]? = some (.bool t)) (k : K t) : ldB H ((b, 0).1, (b, 0).2 + j) K := ⟨t, by rw [rd_row h, Nat.zero_add]; exact hj, k⟩
theorem fL {b j : Nat} {m : Bool} {cs : List Value} {t : Sl} {K : Sl → Prop} (h : H b = some (m, .row cs)) (hj : cs[j]? = some (slv t)) (k : K t) : ldL H ((b, 0).1, (b, 0).2 + j) K := ⟨t, by rw [rd_row h, Nat.zero_add]; exact hj, k⟩
theorem fT {β : Type} {c : β → List Value} {b j : Nat} {m : Bool} {cs : List Value} {x : β} {K : β → Prop} (h : H b = some (m, .row cs)) (hj : ∀ i v, (c x)[i]? = some v → cs[j + i]? = some v) (k : K x) : ldT H c ((b, 0).1, (b, 0).2 + j) K := ⟨x, rds_row h fun i v hi => by rw [Nat.zero_add]; exact hj i v hi, k⟩
theorem cu {P : Program} {f : FuncId} {vs : List Value} {Φ : Value → Heap → Prop} (hok : CallOk P f) (h : Spec P C f vs H Φ) : callU P C (.func (.func f) (List.toArray []) (List.toArray [])) vs H Φ := ⟨f, [], [], rfl, hok, by simpa using h⟩
end
section
variable {α β : Type} {R : α → β → Prop} {c : β → List Value} {A H : Heap} {s : Sl} {l : List α} {z : Nat} {i j : Nat} {x : Int}
theorem SlIs.fS {K : Str → Prop} (h : SlIs R c A s l) (hle : A.le H) (hz : ∀ x, (c x).length = z) (hz0 : 0 < z) (hx : x = i) (hi : i < l.length) {f : β → Str} (hj : ∀ y, (c y)[j]? = some (sv (f y))) (k : ∀ y, R l[i] y → K (f y)) : ixa s x fun p => ldS H ((p.1, p.2 + x.toNat * z).1, (p.1, p.2 + x.toNat * z).2 + j) K :=
  h.at_ hle hz hz0 hx hi fun p y hy hr => ⟨f y, hr j _ (hj y), k y hy⟩
theorem SlIs.fI {q : IntKind} {K : Int → Prop} (h : SlIs R c A s l) (hle : A.le H) (hz : ∀ x, (c x).length = z) (hz0 : 0 < z) (hx : x = i) (hi : i < l.length) {f : β → Int} (hj : ∀ y, (c y)[j]? = some (.int q (f y))) (k : ∀ y, R l[i] y → K (f y)) : ixa s x fun p => ldI H q ((p.1, p.2 + x.toNat * z).1, (p.1, p.2 + x.toNat * z).2 + j) K :=
  h.at_ hle hz hz0 hx hi fun p y hy hr => ⟨f y, hr j _ (hj y), k y hy⟩
theorem SlIs.fL {K : Sl → Prop} (h : SlIs R c A s l) (hle : A.le H) (hz : ∀ x, (c x).length = z) (hz0 : 0 < z) (hx : x = i) (hi : i < l.length) {f : β → Sl} (hj : ∀ y, (c y)[j]? = some (slv (f y))) (k : ∀ y, R l[i] y → K (f y)) : ixa s x fun p => ldL H ((p.1, p.2 + x.toNat * z).1, (p.1, p.2 + x.toNat * z).2 + j) K :=
  h.at_ hle hz hz0 hx hi fun p y hy hr => ⟨f y, hr j _ (hj y), k y hy⟩
theorem SlIs.fT {γ : Type} {d : γ → List Value} {K : γ → Prop} (h : SlIs R c A s l) (hle : A.le H) (hz : ∀ x, (c x).length = z) (hz0 : 0 < z) (hx : x = i) (hi : i < l.length) {f : β → γ} (hj : ∀ y n v, (d (f y))[n]? = some v → (c y)[j + n]? = some v) (k : ∀ y, R l[i] y → K (f y)) : ixa s x fun p => ldT H d ((p.1, p.2 + x.toNat * z).1, (p.1, p.2 + x.toNat * z).2 + j) K :=
  h.at_ hle hz hz0 hx hi fun p y hy hr => ⟨f y, rds_of fun n v hn => by
    have := hr (j + n) v (hj y n v hn)
    rw [← Nat.add_assoc] at this; exact this, k y hy⟩
end
section
variable {C : Ctx} {H : Heap}
theorem len_Import (x : T_api_Import) : (T_api_Import.c x).length = 3 := rfl
theorem EqF_Import {α : Type} {R : α → T_api_Import → Prop} {A : Heap} {s t : Sl} {l m : List α} {e : Value} {K : Bool → Heap → Prop} (hs : SlIs R T_api_Import.c A s l) (ht : SlIs R T_api_Import.c A t m) (hA : A.le H)
    (he : ∀ (i : Nat) (h1 : i < l.length) (h2 : i < m.length) (x y : T_api_Import) (D : Heap) (Φ : Bool → Heap → Prop), A.le D → R l[i] x → R m[i] y → Φ (sm l[i] m[i]) D → callU Tryz.prog C e [.agg (T_api_Import.c x).toArray, .agg (T_api_Import.c y).toArray] D (fun v H31 => ∃ r30 : Bool, v = .bool r30 ∧ Φ r30 H31))
    (k : K (sm l m) H) : c_slices_EqualFunc_api_Import_api_Import_api_Import_api_Import C s t e K H := by
  apply c_slices_EqualFunc_api_Import_api_Import_api_Import_api_Import.gh
  apply ad_slices_EqualFunc_api_Import_api_Import_api_Import_api_Import
  unfold sh_slices_EqualFunc_api_Import_api_Import_api_Import_api_Import
  rw [hs.len, ht.len]
  refine ift.of (fun h => ?_) (fun h => ?_)
  · have : l ≠ m := fun e => by subst e; simp at h
    rw [sm_no this] at k; exact ⟨H, Gh.refl _, k⟩
  have hl : l.length = m.length := Int.ofNat.inj (show (l.length : Int) = m.length by simpa using h)
  have hb := hs.bd
  refine ⟨fun x D => H.le D ∧ ∃ i : Nat, x = (i : Int) ∧ i ≤ l.length ∧ l.take i = m.take i, fun x _ => l.length - x.toNat, ⟨Heap.le.refl _, 0, rfl, Nat.zero_le _, rfl⟩, ?_⟩
  rintro _ D ⟨hD, i, rfl, hi, hq⟩
  refine ift.of (fun h => ?_) (fun h => ?_)
  · have hlt : i < l.length := by have := of_decide_eq_true h; omega
    have hlt2 : i < m.length := by omega
    have hAD := hA.trans hD
    refine hs.ld hAD len_Import (by omega) rfl hlt fun x hx => ?_
    intro b13 n13
    refine nwT rfl ?_
    have l13 := Heap.le_put n13 (g := .row (T_api_Import.c x)) (m := true)
    have h13 : (D.put b13 (.row (T_api_Import.c x))) b13 = some (true, .row (T_api_Import.c x)) := Heap.put_same ..
    generalize D.put b13 (.row (T_api_Import.c x)) = D2 at *
    refine ht.ld (hAD.trans l13) len_Import (by omega) rfl hlt2 fun y hy => ?_
    intro b23 n23
    refine nwT rfl ?_
    have l23 := Heap.le_put n23 (g := .row (T_api_Import.c y)) (m := true)
    have h23 : (D2.put b23 (.row (T_api_Import.c y))) b23 = some (true, .row (T_api_Import.c y)) := Heap.put_same ..
    have h13 := l23 _ _ h13
    generalize D2.put b23 (.row (T_api_Import.c y)) = D3 at *
    have hle := (hD.trans l13).trans l23
    refine bxT h13 (bxT h23 (he i hlt hlt2 x y _ _ (hA.trans hle) hx hy ?_))
    by_cases hxy : l[i] = m[i]
    · rw [sm_yes hxy]
      refine ift_neg rfl ?_
      rw [w_i64 (by omega) (by omega)]
      exact ⟨⟨hle, i + 1, by omega, by omega, take_eq hlt hlt2 hq hxy⟩, by first | omega | (dsimp only; omega)⟩
    · rw [sm_no hxy]
      rw [sm_no (get_ne hlt hlt2 hxy)] at k
      exact ift_pos rfl ⟨H, Gh.le hle, k⟩
  · have hie : i = l.length := by have := of_decide_eq_false h; omega
    rw [sm_yes (take_all hie hl hq)] at k
    exact ⟨H, Gh.le hD, k⟩
theorem len_TypeDef (x : T_api_TypeDef) : (T_api_TypeDef.c x).length = 6 := rfl
theorem EqF_TypeDef {α : Type} {R : α → T_api_TypeDef → Prop} {A : Heap} {s t : Sl} {l m : List α} {e : Value} {K : Bool → Heap → Prop} (hs : SlIs R T_api_TypeDef.c A s l) (ht : SlIs R T_api_TypeDef.c A t m) (hA : A.le H)
    (he : ∀ (i : Nat) (h1 : i < l.length) (h2 : i < m.length) (x y : T_api_TypeDef) (D : Heap) (Φ : Bool → Heap → Prop), A.le D → R l[i] x → R m[i] y → Φ (sm l[i] m[i]) D → callU Tryz.prog C e [.agg (T_api_TypeDef.c x).toArray, .agg (T_api_TypeDef.c y).toArray] D (fun v H31 => ∃ r30 : Bool, v = .bool r30 ∧ Φ r30 H31))
    (k : K (sm l m) H) : c_slices_EqualFunc_api_TypeDef_api_TypeDef_api_TypeDef_api_TypeDef C s t e K H := by
  apply c_slices_EqualFunc_api_TypeDef_api_TypeDef_api_TypeDef_api_TypeDef.gh
  apply ad_slices_EqualFunc_api_TypeDef_api_TypeDef_api_TypeDef_api_TypeDef
  unfold sh_slices_EqualFunc_api_TypeDef_api_TypeDef_api_TypeDef_api_TypeDef
  rw [hs.len, ht.len]
  refine ift.of (fun h => ?_) (fun h => ?_)
  · have : l ≠ m := fun e => by subst e; simp at h
    rw [sm_no this] at k; exact ⟨H, Gh.refl _, k⟩
  have hl : l.length = m.length := Int.ofNat.inj (show (l.length : Int) = m.length by simpa using h)
  have hb := hs.bd
  refine ⟨fun x D => H.le D ∧ ∃ i : Nat, x = (i : Int) ∧ i ≤ l.length ∧ l.take i = m.take i, fun x _ => l.length - x.toNat, ⟨Heap.le.refl _, 0, rfl, Nat.zero_le _, rfl⟩, ?_⟩
  rintro _ D ⟨hD, i, rfl, hi, hq⟩
  refine ift.of (fun h => ?_) (fun h => ?_)
  · have hlt : i < l.length := by have := of_decide_eq_true h; omega
    have hlt2 : i < m.length := by omega
    have hAD := hA.trans hD
    refine hs.ld hAD len_TypeDef (by omega) rfl hlt fun x hx => ?_
    intro b13 n13
    refine nwT rfl ?_
    have l13 := Heap.le_put n13 (g := .row (T_api_TypeDef.c x)) (m := true)
    have h13 : (D.put b13 (.row (T_api_TypeDef.c x))) b13 = some (true, .row (T_api_TypeDef.c x)) := Heap.put_same ..
    generalize D.put b13 (.row (T_api_TypeDef.c x)) = D2 at *
    refine ht.ld (hAD.trans l13) len_TypeDef (by omega) rfl hlt2 fun y hy => ?_
    intro b23 n23
    refine nwT rfl ?_
    have l23 := Heap.le_put n23 (g := .row (T_api_TypeDef.c y)) (m := true)
    have h23 : (D2.put b23 (.row (T_api_TypeDef.c y))) b23 = some (true, .row (T_api_TypeDef.c y)) := Heap.put_same ..
    have h13 := l23 _ _ h13
    generalize D2.put b23 (.row (T_api_TypeDef.c y)) = D3 at *
    have hle := (hD.trans l13).trans l23
    refine bxT h13 (bxT h23 (he i hlt hlt2 x y _ _ (hA.trans hle) hx hy ?_))
    by_cases hxy : l[i] = m[i]
    · rw [sm_yes hxy]
      refine ift_neg rfl ?_
      rw [w_i64 (by omega) (by omega)]
      exact ⟨⟨hle, i + 1, by omega, by omega, take_eq hlt hlt2 hq hxy⟩, by first | omega | (dsimp only; omega)⟩
    · rw [sm_no hxy]
      rw [sm_no (get_ne hlt hlt2 hxy)] at k
      exact ift_pos rfl ⟨H, Gh.le hle, k⟩
  · have hie : i = l.length := by have := of_decide_eq_false h; omega
    rw [sm_yes (take_all hie hl hq)] at k
    exact ⟨H, Gh.le hD, k⟩
theorem len_ConsDef (x : T_api_ConsDef) : (T_api_ConsDef.c x).length = 2 := rfl
theorem EqF_ConsDef {α : Type} {R : α → T_api_ConsDef → Prop} {A : Heap} {s t : Sl} {l m : List α} {e : Value} {K : Bool → Heap → Prop} (hs : SlIs R T_api_ConsDef.c A s l) (ht : SlIs R T_api_ConsDef.c A t m) (hA : A.le H)
    (he : ∀ (i : Nat) (h1 : i < l.length) (h2 : i < m.length) (x y : T_api_ConsDef) (D : Heap) (Φ : Bool → Heap → Prop), A.le D → R l[i] x → R m[i] y → Φ (sm l[i] m[i]) D → callU Tryz.prog C e [.agg (T_api_ConsDef.c x).toArray, .agg (T_api_ConsDef.c y).toArray] D (fun v H31 => ∃ r30 : Bool, v = .bool r30 ∧ Φ r30 H31))
    (k : K (sm l m) H) : c_slices_EqualFunc_api_ConsDef_api_ConsDef_api_ConsDef_api_ConsDef C s t e K H := by
  apply c_slices_EqualFunc_api_ConsDef_api_ConsDef_api_ConsDef_api_ConsDef.gh
  apply ad_slices_EqualFunc_api_ConsDef_api_ConsDef_api_ConsDef_api_ConsDef
  unfold sh_slices_EqualFunc_api_ConsDef_api_ConsDef_api_ConsDef_api_ConsDef
  rw [hs.len, ht.len]
  refine ift.of (fun h => ?_) (fun h => ?_)
  · have : l ≠ m := fun e => by subst e; simp at h
    rw [sm_no this] at k; exact ⟨H, Gh.refl _, k⟩
  have hl : l.length = m.length := Int.ofNat.inj (show (l.length : Int) = m.length by simpa using h)
  have hb := hs.bd
  refine ⟨fun x D => H.le D ∧ ∃ i : Nat, x = (i : Int) ∧ i ≤ l.length ∧ l.take i = m.take i, fun x _ => l.length - x.toNat, ⟨Heap.le.refl _, 0, rfl, Nat.zero_le _, rfl⟩, ?_⟩
  rintro _ D ⟨hD, i, rfl, hi, hq⟩
  refine ift.of (fun h => ?_) (fun h => ?_)
  · have hlt : i < l.length := by have := of_decide_eq_true h; omega
    have hlt2 : i < m.length := by omega
    have hAD := hA.trans hD
    refine hs.ld hAD len_ConsDef (by omega) rfl hlt fun x hx => ?_
    intro b13 n13
    refine nwT rfl ?_
    have l13 := Heap.le_put n13 (g := .row (T_api_ConsDef.c x)) (m := true)
    have h13 : (D.put b13 (.row (T_api_ConsDef.c x))) b13 = some (true, .row (T_api_ConsDef.c x)) := Heap.put_same ..
    generalize D.put b13 (.row (T_api_ConsDef.c x)) = D2 at *
    refine ht.ld (hAD.trans l13) len_ConsDef (by omega) rfl hlt2 fun y hy => ?_
    intro b23 n23
    refine nwT rfl ?_
    have l23 := Heap.le_put n23 (g := .row (T_api_ConsDef.c y)) (m := true)
    have h23 : (D2.put b23 (.row (T_api_ConsDef.c y))) b23 = some (true, .row (T_api_ConsDef.c y)) := Heap.put_same ..
    have h13 := l23 _ _ h13
    generalize D2.put b23 (.row (T_api_ConsDef.c y)) = D3 at *
    have hle := (hD.trans l13).trans l23
    refine bxT h13 (bxT h23 (he i hlt hlt2 x y _ _ (hA.trans hle) hx hy ?_))
    by_cases hxy : l[i] = m[i]
    · rw [sm_yes hxy]
      refine ift_neg rfl ?_
      rw [w_i64 (by omega) (by omega)]
      exact ⟨⟨hle, i + 1, by omega, by omega, take_eq hlt hlt2 hq hxy⟩, by first | omega | (dsimp only; omega)⟩
    · rw [sm_no hxy]
      rw [sm_no (get_ne hlt hlt2 hxy)] at k
      exact ift_pos rfl ⟨H, Gh.le hle, k⟩
  · have hie : i = l.length := by have := of_decide_eq_false h; omega
    rw [sm_yes (take_all hie hl hq)] at k
    exact ⟨H, Gh.le hD, k⟩
theorem len_FieldDef (x : T_api_FieldDef) : (T_api_FieldDef.c x).length = 3 := rfl
theorem EqF_FieldDef {α : Type} {R : α → T_api_FieldDef → Prop} {A : Heap} {s t : Sl} {l m : List α} {e : Value} {K : Bool → Heap → Prop} (hs : SlIs R T_api_FieldDef.c A s l) (ht : SlIs R T_api_FieldDef.c A t m) (hA : A.le H)
    (he : ∀ (i : Nat) (h1 : i < l.length) (h2 : i < m.length) (x y : T_api_FieldDef) (D : Heap) (Φ : Bool → Heap → Prop), A.le D → R l[i] x → R m[i] y → Φ (sm l[i] m[i]) D → callU Tryz.prog C e [.agg (T_api_FieldDef.c x).toArray, .agg (T_api_FieldDef.c y).toArray] D (fun v H31 => ∃ r30 : Bool, v = .bool r30 ∧ Φ r30 H31))
    (k : K (sm l m) H) : c_slices_EqualFunc_api_FieldDef_api_FieldDef_api_FieldDef_api_FieldDef C s t e K H := by
  apply c_slices_EqualFunc_api_FieldDef_api_FieldDef_api_FieldDef_api_FieldDef.gh
  apply ad_slices_EqualFunc_api_FieldDef_api_FieldDef_api_FieldDef_api_FieldDef
  unfold sh_slices_EqualFunc_api_FieldDef_api_FieldDef_api_FieldDef_api_FieldDef
  rw [hs.len, ht.len]
  refine ift.of (fun h => ?_) (fun h => ?_)
  · have : l ≠ m := fun e => by subst e; simp at h
    rw [sm_no this] at k; exact ⟨H, Gh.refl _, k⟩
  have hl : l.length = m.length := Int.ofNat.inj (show (l.length : Int) = m.length by simpa using h)
  have hb := hs.bd
  refine ⟨fun x D => H.le D ∧ ∃ i : Nat, x = (i : Int) ∧ i ≤ l.length ∧ l.take i = m.take i, fun x _ => l.length - x.toNat, ⟨Heap.le.refl _, 0, rfl, Nat.zero_le _, rfl⟩, ?_⟩
  rintro _ D ⟨hD, i, rfl, hi, hq⟩
  refine ift.of (fun h => ?_) (fun h => ?_)
  · have hlt : i < l.length := by have := of_decide_eq_true h; omega
    have hlt2 : i < m.length := by omega
    have hAD := hA.trans hD
    refine hs.ld hAD len_FieldDef (by omega) rfl hlt fun x hx => ?_
    intro b13 n13
    refine nwT rfl ?_
    have l13 := Heap.le_put n13 (g := .row (T_api_FieldDef.c x)) (m := true)
    have h13 : (D.put b13 (.row (T_api_FieldDef.c x))) b13 = some (true, .row (T_api_FieldDef.c x)) := Heap.put_same ..
    generalize D.put b13 (.row (T_api_FieldDef.c x)) = D2 at *
    refine ht.ld (hAD.trans l13) len_FieldDef (by omega) rfl hlt2 fun y hy => ?_
    intro b23 n23
    refine nwT rfl ?_
    have l23 := Heap.le_put n23 (g := .row (T_api_FieldDef.c y)) (m := true)
    have h23 : (D2.put b23 (.row (T_api_FieldDef.c y))) b23 = some (true, .row (T_api_FieldDef.c y)) := Heap.put_same ..
    have h13 := l23 _ _ h13
    generalize D2.put b23 (.row (T_api_FieldDef.c y)) = D3 at *
    have hle := (hD.trans l13).trans l23
    refine bxT h13 (bxT h23 (he i hlt hlt2 x y _ _ (hA.trans hle) hx hy ?_))
    by_cases hxy : l[i] = m[i]
    · rw [sm_yes hxy]
      refine ift_neg rfl ?_
      rw [w_i64 (by omega) (by omega)]
      exact ⟨⟨hle, i + 1, by omega, by omega, take_eq hlt hlt2 hq hxy⟩, by first | omega | (dsimp only; omega)⟩
    · rw [sm_no hxy]
      rw [sm_no (get_ne hlt hlt2 hxy)] at k
      exact ift_pos rfl ⟨H, Gh.le hle, k⟩
  · have hie : i = l.length := by have := of_decide_eq_false h; omega
    rw [sm_yes (take_all hie hl hq)] at k
    exact ⟨H, Gh.le hD, k⟩
theorem len_RelDef (x : T_api_RelDef) : (T_api_RelDef.c x).length = 6 := rfl
theorem EqF_RelDef {α : Type} {R : α → T_api_RelDef → Prop} {A : Heap} {s t : Sl} {l m : List α} {e : Value} {K : Bool → Heap → Prop} (hs : SlIs R T_api_RelDef.c A s l) (ht : SlIs R T_api_RelDef.c A t m) (hA : A.le H)
    (he : ∀ (i : Nat) (h1 : i < l.length) (h2 : i < m.length) (x y : T_api_RelDef) (D : Heap) (Φ : Bool → Heap → Prop), A.le D → R l[i] x → R m[i] y → Φ (sm l[i] m[i]) D → callU Tryz.prog C e [.agg (T_api_RelDef.c x).toArray, .agg (T_api_RelDef.c y).toArray] D (fun v H31 => ∃ r30 : Bool, v = .bool r30 ∧ Φ r30 H31))
    (k : K (sm l m) H) : c_slices_EqualFunc_api_RelDef_api_RelDef_api_RelDef_api_RelDef C s t e K H := by
  apply c_slices_EqualFunc_api_RelDef_api_RelDef_api_RelDef_api_RelDef.gh
  apply ad_slices_EqualFunc_api_RelDef_api_RelDef_api_RelDef_api_RelDef
  unfold sh_slices_EqualFunc_api_RelDef_api_RelDef_api_RelDef_api_RelDef
  rw [hs.len, ht.len]
  refine ift.of (fun h => ?_) (fun h => ?_)
  · have : l ≠ m := fun e => by subst e; simp at h
    rw [sm_no this] at k; exact ⟨H, Gh.refl _, k⟩
  have hl : l.length = m.length := Int.ofNat.inj (show (l.length : Int) = m.length by simpa using h)
  have hb := hs.bd
  refine ⟨fun x D => H.le D ∧ ∃ i : Nat, x = (i : Int) ∧ i ≤ l.length ∧ l.take i = m.take i, fun x _ => l.length - x.toNat, ⟨Heap.le.refl _, 0, rfl, Nat.zero_le _, rfl⟩, ?_⟩
  rintro _ D ⟨hD, i, rfl, hi, hq⟩
  refine ift.of (fun h => ?_) (fun h => ?_)
  · have hlt : i < l.length := by have := of_decide_eq_true h; omega
    have hlt2 : i < m.length := by omega
    have hAD := hA.trans hD
    refine hs.ld hAD len_RelDef (by omega) rfl hlt fun x hx => ?_
    intro b13 n13
    refine nwT rfl ?_
    have l13 := Heap.le_put n13 (g := .row (T_api_RelDef.c x)) (m := true)
    have h13 : (D.put b13 (.row (T_api_RelDef.c x))) b13 = some (true, .row (T_api_RelDef.c x)) := Heap.put_same ..
    generalize D.put b13 (.row (T_api_RelDef.c x)) = D2 at *
    refine ht.ld (hAD.trans l13) len_RelDef (by omega) rfl hlt2 fun y hy => ?_
    intro b23 n23
    refine nwT rfl ?_
    have l23 := Heap.le_put n23 (g := .row (T_api_RelDef.c y)) (m := true)
    have h23 : (D2.put b23 (.row (T_api_RelDef.c y))) b23 = some (true, .row (T_api_RelDef.c y)) := Heap.put_same ..
    have h13 := l23 _ _ h13
    generalize D2.put b23 (.row (T_api_RelDef.c y)) = D3 at *
    have hle := (hD.trans l13).trans l23
    refine bxT h13 (bxT h23 (he i hlt hlt2 x y _ _ (hA.trans hle) hx hy ?_))
    by_cases hxy : l[i] = m[i]
    · rw [sm_yes hxy]
      refine ift_neg rfl ?_
      rw [w_i64 (by omega) (by omega)]
      exact ⟨⟨hle, i + 1, by omega, by omega, take_eq hlt hlt2 hq hxy⟩, by first | omega | (dsimp only; omega)⟩
    · rw [sm_no hxy]
      rw [sm_no (get_ne hlt hlt2 hxy)] at k
      exact ift_pos rfl ⟨H, Gh.le hle, k⟩
  · have hie : i = l.length := by have := of_decide_eq_false h; omega
    rw [sm_yes (take_all hie hl hq)] at k
    exact ⟨H, Gh.le hD, k⟩
theorem len_Rule (x : T_api_Rule) : (T_api_Rule.c x).length = 6 := rfl
theorem EqF_Rule {α : Type} {R : α → T_api_Rule → Prop} {A : Heap} {s t : Sl} {l m : List α} {e : Value} {K : Bool → Heap → Prop} (hs : SlIs R T_api_Rule.c A s l) (ht : SlIs R T_api_Rule.c A t m) (hA : A.le H)
    (he : ∀ (i : Nat) (h1 : i < l.length) (h2 : i < m.length) (x y : T_api_Rule) (D : Heap) (Φ : Bool → Heap → Prop), A.le D → R l[i] x → R m[i] y → Φ (sm l[i] m[i]) D → callU Tryz.prog C e [.agg (T_api_Rule.c x).toArray, .agg (T_api_Rule.c y).toArray] D (fun v H31 => ∃ r30 : Bool, v = .bool r30 ∧ Φ r30 H31))
    (k : K (sm l m) H) : c_slices_EqualFunc_api_Rule_api_Rule_api_Rule_api_Rule C s t e K H := by
  apply c_slices_EqualFunc_api_Rule_api_Rule_api_Rule_api_Rule.gh
  apply ad_slices_EqualFunc_api_Rule_api_Rule_api_Rule_api_Rule
  unfold sh_slices_EqualFunc_api_Rule_api_Rule_api_Rule_api_Rule
  rw [hs.len, ht.len]
  refine ift.of (fun h => ?_) (fun h => ?_)
  · have : l ≠ m := fun e => by subst e; simp at h
    rw [sm_no this] at k; exact ⟨H, Gh.refl _, k⟩
  have hl : l.length = m.length := Int.ofNat.inj (show (l.length : Int) = m.length by simpa using h)
  have hb := hs.bd
  refine ⟨fun x D => H.le D ∧ ∃ i : Nat, x = (i : Int) ∧ i ≤ l.length ∧ l.take i = m.take i, fun x _ => l.length - x.toNat, ⟨Heap.le.refl _, 0, rfl, Nat.zero_le _, rfl⟩, ?_⟩
  rintro _ D ⟨hD, i, rfl, hi, hq⟩
  refine ift.of (fun h => ?_) (fun h => ?_)
  · have hlt : i < l.length := by have := of_decide_eq_true h; omega
    have hlt2 : i < m.length := by omega
    have hAD := hA.trans hD
    refine hs.ld hAD len_Rule (by omega) rfl hlt fun x hx => ?_
    intro b13 n13
    refine nwT rfl ?_
    have l13 := Heap.le_put n13 (g := .row (T_api_Rule.c x)) (m := true)
    have h13 : (D.put b13 (.row (T_api_Rule.c x))) b13 = some (true, .row (T_api_Rule.c x)) := Heap.put_same ..
    generalize D.put b13 (.row (T_api_Rule.c x)) = D2 at *
    refine ht.ld (hAD.trans l13) len_Rule (by omega) rfl hlt2 fun y hy => ?_
    intro b23 n23
    refine nwT rfl ?_
    have l23 := Heap.le_put n23 (g := .row (T_api_Rule.c y)) (m := true)
    have h23 : (D2.put b23 (.row (T_api_Rule.c y))) b23 = some (true, .row (T_api_Rule.c y)) := Heap.put_same ..
    have h13 := l23 _ _ h13
    generalize D2.put b23 (.row (T_api_Rule.c y)) = D3 at *
    have hle := (hD.trans l13).trans l23
    refine bxT h13 (bxT h23 (he i hlt hlt2 x y _ _ (hA.trans hle) hx hy ?_))
    by_cases hxy : l[i] = m[i]
    · rw [sm_yes hxy]
      refine ift_neg rfl ?_
      rw [w_i64 (by omega) (by omega)]
      exact ⟨⟨hle, i + 1, by omega, by omega, take_eq hlt hlt2 hq hxy⟩, by first | omega | (dsimp only; omega)⟩
    · rw [sm_no hxy]
      rw [sm_no (get_ne hlt hlt2 hxy)] at k
      exact ift_pos rfl ⟨H, Gh.le hle, k⟩
  · have hie : i = l.length := by have := of_decide_eq_false h; omega
    rw [sm_yes (take_all hie hl hq)] at k
    exact ⟨H, Gh.le hD, k⟩
theorem len_Expr (x : T_api_Expr) : (T_api_Expr.c x).length = 9 := rfl
theorem EqF_Expr {α : Type} {R : α → T_api_Expr → Prop} {A : Heap} {s t : Sl} {l m : List α} {e : Value} {K : Bool → Heap → Prop} (hs : SlIs R T_api_Expr.c A s l) (ht : SlIs R T_api_Expr.c A t m) (hA : A.le H)
    (he : ∀ (i : Nat) (h1 : i < l.length) (h2 : i < m.length) (x y : T_api_Expr) (D : Heap) (Φ : Bool → Heap → Prop), A.le D → R l[i] x → R m[i] y → Φ (sm l[i] m[i]) D → callU Tryz.prog C e [.agg (T_api_Expr.c x).toArray, .agg (T_api_Expr.c y).toArray] D (fun v H31 => ∃ r30 : Bool, v = .bool r30 ∧ Φ r30 H31))
    (k : K (sm l m) H) : c_slices_EqualFunc_api_Expr_api_Expr_api_Expr_api_Expr C s t e K H := by
  apply c_slices_EqualFunc_api_Expr_api_Expr_api_Expr_api_Expr.gh
  apply ad_slices_EqualFunc_api_Expr_api_Expr_api_Expr_api_Expr
  unfold sh_slices_EqualFunc_api_Expr_api_Expr_api_Expr_api_Expr
  rw [hs.len, ht.len]
  refine ift.of (fun h => ?_) (fun h => ?_)
  · have : l ≠ m := fun e => by subst e; simp at h
    rw [sm_no this] at k; exact ⟨H, Gh.refl _, k⟩
  have hl : l.length = m.length := Int.ofNat.inj (show (l.length : Int) = m.length by simpa using h)
  have hb := hs.bd
  refine ⟨fun x D => H.le D ∧ ∃ i : Nat, x = (i : Int) ∧ i ≤ l.length ∧ l.take i = m.take i, fun x _ => l.length - x.toNat, ⟨Heap.le.refl _, 0, rfl, Nat.zero_le _, rfl⟩, ?_⟩
  rintro _ D ⟨hD, i, rfl, hi, hq⟩
  refine ift.of (fun h => ?_) (fun h => ?_)
  · have hlt : i < l.length := by have := of_decide_eq_true h; omega
    have hlt2 : i < m.length := by omega
    have hAD := hA.trans hD
    refine hs.ld hAD len_Expr (by omega) rfl hlt fun x hx => ?_
    intro b13 n13
    refine nwT rfl ?_
    have l13 := Heap.le_put n13 (g := .row (T_api_Expr.c x)) (m := true)
    have h13 : (D.put b13 (.row (T_api_Expr.c x))) b13 = some (true, .row (T_api_Expr.c x)) := Heap.put_same ..
    generalize D.put b13 (.row (T_api_Expr.c x)) = D2 at *
    refine ht.ld (hAD.trans l13) len_Expr (by omega) rfl hlt2 fun y hy => ?_
    intro b23 n23
    refine nwT rfl ?_
    have l23 := Heap.le_put n23 (g := .row (T_api_Expr.c y)) (m := true)
    have h23 : (D2.put b23 (.row (T_api_Expr.c y))) b23 = some (true, .row (T_api_Expr.c y)) := Heap.put_same ..
    have h13 := l23 _ _ h13
    generalize D2.put b23 (.row (T_api_Expr.c y)) = D3 at *
    have hle := (hD.trans l13).trans l23
    refine bxT h13 (bxT h23 (he i hlt hlt2 x y _ _ (hA.trans hle) hx hy ?_))
    by_cases hxy : l[i] = m[i]
    · rw [sm_yes hxy]
      refine ift_neg rfl ?_
      rw [w_i64 (by omega) (by omega)]
      exact ⟨⟨hle, i + 1, by omega, by omega, take_eq hlt hlt2 hq hxy⟩, by first | omega | (dsimp only; omega)⟩
    · rw [sm_no hxy]
      rw [sm_no (get_ne hlt hlt2 hxy)] at k
      exact ift_pos rfl ⟨H, Gh.le hle, k⟩
  · have hie : i = l.length := by have := of_decide_eq_false h; omega
    rw [sm_yes (take_all hie hl hq)] at k
    exact ⟨H, Gh.le hD, k⟩
theorem len_Literal (x : T_api_Literal) : (T_api_Literal.c x).length = 5 := rfl
theorem EqF_Literal {α : Type} {R : α → T_api_Literal → Prop} {A : Heap} {s t : Sl} {l m : List α} {e : Value} {K : Bool → Heap → Prop} (hs : SlIs R T_api_Literal.c A s l) (ht : SlIs R T_api_Literal.c A t m) (hA : A.le H)
    (he : ∀ (i : Nat) (h1 : i < l.length) (h2 : i < m.length) (x y : T_api_Literal) (D : Heap) (Φ : Bool → Heap → Prop), A.le D → R l[i] x → R m[i] y → Φ (sm l[i] m[i]) D → callU Tryz.prog C e [.agg (T_api_Literal.c x).toArray, .agg (T_api_Literal.c y).toArray] D (fun v H31 => ∃ r30 : Bool, v = .bool r30 ∧ Φ r30 H31))
    (k : K (sm l m) H) : c_slices_EqualFunc_api_Literal_api_Literal_api_Literal_api_Literal C s t e K H := by
  apply c_slices_EqualFunc_api_Literal_api_Literal_api_Literal_api_Literal.gh
  apply ad_slices_EqualFunc_api_Literal_api_Literal_api_Literal_api_Literal
  unfold sh_slices_EqualFunc_api_Literal_api_Literal_api_Literal_api_Literal
  rw [hs.len, ht.len]
  refine ift.of (fun h => ?_) (fun h => ?_)
  · have : l ≠ m := fun e => by subst e; simp at h
    rw [sm_no this] at k; exact ⟨H, Gh.refl _, k⟩
  have hl : l.length = m.length := Int.ofNat.inj (show (l.length : Int) = m.length by simpa using h)
  have hb := hs.bd
  refine ⟨fun x D => H.le D ∧ ∃ i : Nat, x = (i : Int) ∧ i ≤ l.length ∧ l.take i = m.take i, fun x _ => l.length - x.toNat, ⟨Heap.le.refl _, 0, rfl, Nat.zero_le _, rfl⟩, ?_⟩
  rintro _ D ⟨hD, i, rfl, hi, hq⟩
  refine ift.of (fun h => ?_) (fun h => ?_)
  · have hlt : i < l.length := by have := of_decide_eq_true h; omega
    have hlt2 : i < m.length := by omega
    have hAD := hA.trans hD
    refine hs.ld hAD len_Literal (by omega) rfl hlt fun x hx => ?_
    intro b13 n13
    refine nwT rfl ?_
    have l13 := Heap.le_put n13 (g := .row (T_api_Literal.c x)) (m := true)
    have h13 : (D.put b13 (.row (T_api_Literal.c x))) b13 = some (true, .row (T_api_Literal.c x)) := Heap.put_same ..
    generalize D.put b13 (.row (T_api_Literal.c x)) = D2 at *
    refine ht.ld (hAD.trans l13) len_Literal (by omega) rfl hlt2 fun y hy => ?_
    intro b23 n23
    refine nwT rfl ?_
    have l23 := Heap.le_put n23 (g := .row (T_api_Literal.c y)) (m := true)
    have h23 : (D2.put b23 (.row (T_api_Literal.c y))) b23 = some (true, .row (T_api_Literal.c y)) := Heap.put_same ..
    have h13 := l23 _ _ h13
    generalize D2.put b23 (.row (T_api_Literal.c y)) = D3 at *
    have hle := (hD.trans l13).trans l23
    refine bxT h13 (bxT h23 (he i hlt hlt2 x y _ _ (hA.trans hle) hx hy ?_))
    by_cases hxy : l[i] = m[i]
    · rw [sm_yes hxy]
      refine ift_neg rfl ?_
      rw [w_i64 (by omega) (by omega)]
      exact ⟨⟨hle, i + 1, by omega, by omega, take_eq hlt hlt2 hq hxy⟩, by first | omega | (dsimp only; omega)⟩
    · rw [sm_no hxy]
      rw [sm_no (get_ne hlt hlt2 hxy)] at k
      exact ift_pos rfl ⟨H, Gh.le hle, k⟩
  · have hie : i = l.length := by have := of_decide_eq_false h; omega
    rw [sm_yes (take_all hie hl hq)] at k
    exact ⟨H, Gh.le hD, k⟩
theorem len_Never (x : T_api_Never) : (T_api_Never.c x).length = 4 := rfl
theorem EqF_Never {α : Type} {R : α → T_api_Never → Prop} {A : Heap} {s t : Sl} {l m : List α} {e : Value} {K : Bool → Heap → Prop} (hs : SlIs R T_api_Never.c A s l) (ht : SlIs R T_api_Never.c A t m) (hA : A.le H)
    (he : ∀ (i : Nat) (h1 : i < l.length) (h2 : i < m.length) (x y : T_api_Never) (D : Heap) (Φ : Bool → Heap → Prop), A.le D → R l[i] x → R m[i] y → Φ (sm l[i] m[i]) D → callU Tryz.prog C e [.agg (T_api_Never.c x).toArray, .agg (T_api_Never.c y).toArray] D (fun v H31 => ∃ r30 : Bool, v = .bool r30 ∧ Φ r30 H31))
    (k : K (sm l m) H) : c_slices_EqualFunc_api_Never_api_Never_api_Never_api_Never C s t e K H := by
  apply c_slices_EqualFunc_api_Never_api_Never_api_Never_api_Never.gh
  apply ad_slices_EqualFunc_api_Never_api_Never_api_Never_api_Never
  unfold sh_slices_EqualFunc_api_Never_api_Never_api_Never_api_Never
  rw [hs.len, ht.len]
  refine ift.of (fun h => ?_) (fun h => ?_)
  · have : l ≠ m := fun e => by subst e; simp at h
    rw [sm_no this] at k; exact ⟨H, Gh.refl _, k⟩
  have hl : l.length = m.length := Int.ofNat.inj (show (l.length : Int) = m.length by simpa using h)
  have hb := hs.bd
  refine ⟨fun x D => H.le D ∧ ∃ i : Nat, x = (i : Int) ∧ i ≤ l.length ∧ l.take i = m.take i, fun x _ => l.length - x.toNat, ⟨Heap.le.refl _, 0, rfl, Nat.zero_le _, rfl⟩, ?_⟩
  rintro _ D ⟨hD, i, rfl, hi, hq⟩
  refine ift.of (fun h => ?_) (fun h => ?_)
  · have hlt : i < l.length := by have := of_decide_eq_true h; omega
    have hlt2 : i < m.length := by omega
    have hAD := hA.trans hD
    refine hs.ld hAD len_Never (by omega) rfl hlt fun x hx => ?_
    intro b13 n13
    refine nwT rfl ?_
    have l13 := Heap.le_put n13 (g := .row (T_api_Never.c x)) (m := true)
    have h13 : (D.put b13 (.row (T_api_Never.c x))) b13 = some (true, .row (T_api_Never.c x)) := Heap.put_same ..
    generalize D.put b13 (.row (T_api_Never.c x)) = D2 at *
    refine ht.ld (hAD.trans l13) len_Never (by omega) rfl hlt2 fun y hy => ?_
    intro b23 n23
    refine nwT rfl ?_
    have l23 := Heap.le_put n23 (g := .row (T_api_Never.c y)) (m := true)
    have h23 : (D2.put b23 (.row (T_api_Never.c y))) b23 = some (true, .row (T_api_Never.c y)) := Heap.put_same ..
    have h13 := l23 _ _ h13
    generalize D2.put b23 (.row (T_api_Never.c y)) = D3 at *
    have hle := (hD.trans l13).trans l23
    refine bxT h13 (bxT h23 (he i hlt hlt2 x y _ _ (hA.trans hle) hx hy ?_))
    by_cases hxy : l[i] = m[i]
    · rw [sm_yes hxy]
      refine ift_neg rfl ?_
      rw [w_i64 (by omega) (by omega)]
      exact ⟨⟨hle, i + 1, by omega, by omega, take_eq hlt hlt2 hq hxy⟩, by first | omega | (dsimp only; omega)⟩
    · rw [sm_no hxy]
      rw [sm_no (get_ne hlt hlt2 hxy)] at k
      exact ift_pos rfl ⟨H, Gh.le hle, k⟩
  · have hie : i = l.length := by have := of_decide_eq_false h; omega
    rw [sm_yes (take_all hie hl hq)] at k
    exact ⟨H, Gh.le hD, k⟩
theorem len_Type (x : T_api_Type) : (T_api_Type.c x).length = 2 := rfl
theorem EqF_Type {α : Type} {R : α → T_api_Type → Prop} {A : Heap} {s t : Sl} {l m : List α} {e : Value} {K : Bool → Heap → Prop} (hs : SlIs R T_api_Type.c A s l) (ht : SlIs R T_api_Type.c A t m) (hA : A.le H)
    (he : ∀ (i : Nat) (h1 : i < l.length) (h2 : i < m.length) (x y : T_api_Type) (D : Heap) (Φ : Bool → Heap → Prop), A.le D → R l[i] x → R m[i] y → Φ (sm l[i] m[i]) D → callU Tryz.prog C e [.agg (T_api_Type.c x).toArray, .agg (T_api_Type.c y).toArray] D (fun v H31 => ∃ r30 : Bool, v = .bool r30 ∧ Φ r30 H31))
    (k : K (sm l m) H) : c_slices_EqualFunc_api_Type_api_Type_api_Type_api_Type C s t e K H := by
  apply c_slices_EqualFunc_api_Type_api_Type_api_Type_api_Type.gh
  apply ad_slices_EqualFunc_api_Type_api_Type_api_Type_api_Type
  unfold sh_slices_EqualFunc_api_Type_api_Type_api_Type_api_Type
  rw [hs.len, ht.len]
  refine ift.of (fun h => ?_) (fun h => ?_)
  · have : l ≠ m := fun e => by subst e; simp at h
    rw [sm_no this] at k; exact ⟨H, Gh.refl _, k⟩
  have hl : l.length = m.length := Int.ofNat.inj (show (l.length : Int) = m.length by simpa using h)
  have hb := hs.bd
  refine ⟨fun x D => H.le D ∧ ∃ i : Nat, x = (i : Int) ∧ i ≤ l.length ∧ l.take i = m.take i, fun x _ => l.length - x.toNat, ⟨Heap.le.refl _, 0, rfl, Nat.zero_le _, rfl⟩, ?_⟩
  rintro _ D ⟨hD, i, rfl, hi, hq⟩
  refine ift.of (fun h => ?_) (fun h => ?_)
  · have hlt : i < l.length := by have := of_decide_eq_true h; omega
    have hlt2 : i < m.length := by omega
    have hAD := hA.trans hD
    refine hs.ld hAD len_Type (by omega) rfl hlt fun x hx => ?_
    intro b13 n13
    refine nwT rfl ?_
    have l13 := Heap.le_put n13 (g := .row (T_api_Type.c x)) (m := true)
    have h13 : (D.put b13 (.row (T_api_Type.c x))) b13 = some (true, .row (T_api_Type.c x)) := Heap.put_same ..
    generalize D.put b13 (.row (T_api_Type.c x)) = D2 at *
    refine ht.ld (hAD.trans l13) len_Type (by omega) rfl hlt2 fun y hy => ?_
    intro b23 n23
    refine nwT rfl ?_
    have l23 := Heap.le_put n23 (g := .row (T_api_Type.c y)) (m := true)
    have h23 : (D2.put b23 (.row (T_api_Type.c y))) b23 = some (true, .row (T_api_Type.c y)) := Heap.put_same ..
    have h13 := l23 _ _ h13
    generalize D2.put b23 (.row (T_api_Type.c y)) = D3 at *
    have hle := (hD.trans l13).trans l23
    refine bxT h13 (bxT h23 (he i hlt hlt2 x y _ _ (hA.trans hle) hx hy ?_))
    by_cases hxy : l[i] = m[i]
    · rw [sm_yes hxy]
      refine ift_neg rfl ?_
      rw [w_i64 (by omega) (by omega)]
      exact ⟨⟨hle, i + 1, by omega, by omega, take_eq hlt hlt2 hq hxy⟩, by first | omega | (dsimp only; omega)⟩
    · rw [sm_no hxy]
      rw [sm_no (get_ne hlt hlt2 hxy)] at k
      exact ift_pos rfl ⟨H, Gh.le hle, k⟩
  · have hie : i = l.length := by have := of_decide_eq_false h; omega
    rw [sm_yes (take_all hie hl hq)] at k
    exact ⟨H, Gh.le hD, k⟩
theorem len_Value (x : T_api_Value) : (T_api_Value.c x).length = 4 := rfl
theorem EqF_Value {α : Type} {R : α → T_api_Value → Prop} {A : Heap} {s t : Sl} {l m : List α} {e : Value} {K : Bool → Heap → Prop} (hs : SlIs R T_api_Value.c A s l) (ht : SlIs R T_api_Value.c A t m) (hA : A.le H)
    (he : ∀ (i : Nat) (h1 : i < l.length) (h2 : i < m.length) (x y : T_api_Value) (D : Heap) (Φ : Bool → Heap → Prop), A.le D → R l[i] x → R m[i] y → Φ (sm l[i] m[i]) D → callU Tryz.prog C e [.agg (T_api_Value.c x).toArray, .agg (T_api_Value.c y).toArray] D (fun v H31 => ∃ r30 : Bool, v = .bool r30 ∧ Φ r30 H31))
    (k : K (sm l m) H) : c_slices_EqualFunc_api_Value_api_Value_api_Value_api_Value C s t e K H := by
  apply c_slices_EqualFunc_api_Value_api_Value_api_Value_api_Value.gh
  apply ad_slices_EqualFunc_api_Value_api_Value_api_Value_api_Value
  unfold sh_slices_EqualFunc_api_Value_api_Value_api_Value_api_Value
  rw [hs.len, ht.len]
  refine ift.of (fun h => ?_) (fun h => ?_)
  · have : l ≠ m := fun e => by subst e; simp at h
    rw [sm_no this] at k; exact ⟨H, Gh.refl _, k⟩
  have hl : l.length = m.length := Int.ofNat.inj (show (l.length : Int) = m.length by simpa using h)
  have hb := hs.bd
  refine ⟨fun x D => H.le D ∧ ∃ i : Nat, x = (i : Int) ∧ i ≤ l.length ∧ l.take i = m.take i, fun x _ => l.length - x.toNat, ⟨Heap.le.refl _, 0, rfl, Nat.zero_le _, rfl⟩, ?_⟩
  rintro _ D ⟨hD, i, rfl, hi, hq⟩
  refine ift.of (fun h => ?_) (fun h => ?_)
  · have hlt : i < l.length := by have := of_decide_eq_true h; omega
    have hlt2 : i < m.length := by omega
    have hAD := hA.trans hD
    refine hs.ld hAD len_Value (by omega) rfl hlt fun x hx => ?_
    intro b13 n13
    refine nwT rfl ?_
    have l13 := Heap.le_put n13 (g := .row (T_api_Value.c x)) (m := true)
    have h13 : (D.put b13 (.row (T_api_Value.c x))) b13 = some (true, .row (T_api_Value.c x)) := Heap.put_same ..
    generalize D.put b13 (.row (T_api_Value.c x)) = D2 at *
    refine ht.ld (hAD.trans l13) len_Value (by omega) rfl hlt2 fun y hy => ?_
    intro b23 n23
    refine nwT rfl ?_
    have l23 := Heap.le_put n23 (g := .row (T_api_Value.c y)) (m := true)
    have h23 : (D2.put b23 (.row (T_api_Value.c y))) b23 = some (true, .row (T_api_Value.c y)) := Heap.put_same ..
    have h13 := l23 _ _ h13
    generalize D2.put b23 (.row (T_api_Value.c y)) = D3 at *
    have hle := (hD.trans l13).trans l23
    refine bxT h13 (bxT h23 (he i hlt hlt2 x y _ _ (hA.trans hle) hx hy ?_))
    by_cases hxy : l[i] = m[i]
    · rw [sm_yes hxy]
      refine ift_neg rfl ?_
      rw [w_i64 (by omega) (by omega)]
      exact ⟨⟨hle, i + 1, by omega, by omega, take_eq hlt hlt2 hq hxy⟩, by first | omega | (dsimp only; omega)⟩
    · rw [sm_no hxy]
      rw [sm_no (get_ne hlt hlt2 hxy)] at k
      exact ift_pos rfl ⟨H, Gh.le hle, k⟩
  · have hie : i = l.length := by have := of_decide_eq_false h; omega
    rw [sm_yes (take_all hie hl hq)] at k
    exact ⟨H, Gh.le hD, k⟩
end
end Sx
end

noncomputable section
set_option linter.unusedVariables false
set_option linter.unusedSimpArgs false
set_option maxRecDepth 10000
namespace Sx
open Go Go.Proofs
theorem jb {P : Prop} {R : Bool → Heap → Prop} {body : (Bool → Heap → Prop) → Prop} (H0 : Heap) (h1 : body (fun b E => E = H0 ∧ (b = true ↔ P))) (h2 : ∀ b, (b = true ↔ P) → R b H0) : jn (α := Bool) R body := ⟨fun b E => E = H0 ∧ (b = true ↔ P), h1, fun b E hh => by obtain ⟨e, h⟩ := hh; subst e; exact h2 b h⟩
theorem nand {b : Bool} {P Q : Prop} (hb : b = true ↔ P) (h : b = false) : (false = true ↔ P ∧ Q) := ⟨fun h' => (nomatch h'), fun ⟨hp, _⟩ => by rw [hb.2 hp] at h; cases h⟩
theorem yand {b r : Bool} {P Q : Prop} (hb : b = true ↔ P) (h : b = true) (hr : r = true ↔ Q) : (r = true ↔ P ∧ Q) := ⟨fun h' => ⟨hb.1 h, hr.1 h'⟩, fun ⟨_, hq⟩ => hr.2 hq⟩
theorem sm_of {α : Type} {v w : α} {b : Bool} (h : b = true ↔ v = w) : b = sm v w := by
  rw [Bool.eq_iff_iff, h, sm_t]
theorem iq {a b a' b' : Int} (ha : a = a') (hb : b = b') : ((a == b) = true ↔ a' = b') := by rw [ha, hb]; simp
theorem sq {a b a' b' : Str} (ha : a = a') (hb : b = b') : ((a == b) = true ↔ a' = b') := by rw [ha, hb]; simp
theorem bq {a b a' b' : Bool} (ha : a = a') (hb : b = b') : ((a == b) = true ↔ a' = b') := by rw [ha, hb]; simp
theorem V.eq_iff {v w : V} : v = w ↔ ((v.k = w.k ∧ v.n = w.n) ∧ v.s = w.s) ∧ v.l = w.l := by
  obtain ⟨a, b, c, d⟩ := v; obtain ⟨e, f, g, h⟩ := w
  constructor
  · rintro ⟨⟩; exact ⟨⟨⟨rfl, rfl⟩, rfl⟩, rfl⟩
  · rintro ⟨⟨⟨h1, h2⟩, h3⟩, h4⟩
    have h1 : a = e := h1; have h2 : b = f := h2; have h3 : c = g := h3; have h4 : d = h := h4
    rw [h1, h2, h3, h4]
theorem TyV.eq_iff {v w : TyV} : v = w ↔ v.n = w.n ∧ v.a = w.a := by
  obtain ⟨a, b⟩ := v; obtain ⟨e, f⟩ := w
  constructor
  · rintro ⟨⟩; exact ⟨rfl, rfl⟩
  · rintro ⟨h1, h2⟩
    have h1 : a = e := h1; have h2 : b = f := h2
    rw [h1, h2]
theorem ExV.eq_iff {v w : ExV} : v = w ↔ ((v.k = w.k ∧ v.n = w.n) ∧ v.v = w.v) ∧ v.a = w.a := by
  obtain ⟨a, b, c, d⟩ := v; obtain ⟨e, f, g, h⟩ := w
  constructor
  · rintro ⟨⟩; exact ⟨⟨⟨rfl, rfl⟩, rfl⟩, rfl⟩
  · rintro ⟨⟨⟨h1, h2⟩, h3⟩, h4⟩
    have h1 : a = e := h1; have h2 : b = f := h2; have h3 : c = g := h3; have h4 : d = h := h4
    rw [h1, h2, h3, h4]
theorem LiV.eq_iff {v w : LiV} : v = w ↔ (v.k = w.k ∧ v.r = w.r) ∧ v.a = w.a := by cases v; cases w; simp [and_assoc]
theorem FdV.eq_iff {v w : FdV} : v = w ↔ v.n = w.n ∧ v.t = w.t := by cases v; cases w; simp
theorem CnV.eq_iff {v w : CnV} : v = w ↔ v.n = w.n ∧ v.f = w.f := by cases v; cases w; simp
theorem TdV.eq_iff {v w : TdV} : v = w ↔ ((v.p = w.p ∧ v.n = w.n) ∧ v.ps = w.ps) ∧ v.cs = w.cs := by cases v; cases w; simp [and_assoc]
theorem RdV.eq_iff {v w : RdV} : v = w ↔ ((v.p = w.p ∧ v.i = w.i) ∧ v.n = w.n) ∧ v.f = w.f := by cases v; cases w; simp [and_assoc]
theorem RuV.eq_iff {v w : RuV} : v = w ↔ ((v.r = w.r ∧ v.a = w.a) ∧ v.g = w.g) ∧ v.b = w.b := by cases v; cases w; simp [and_assoc]
theorem NeV.eq_iff {v w : NeV} : v = w ↔ v.n = w.n ∧ v.b = w.b := by cases v; cases w; simp
theorem MoV.eq_iff {v w : MoV} : v = w ↔ ((((v.n = w.n ∧ v.im = w.im) ∧ v.ty = w.ty) ∧ v.re = w.re) ∧ v.ru = w.ru) ∧ v.ne = w.ne := by cases v; cases w; simp [and_assoc]
theorem VL {A : Heap} {t : Sl} {l : List V} (h : VRow A t l) (hb : l.length ≤ 140737488355328) : SlIs (VIs A) T_api_Value.c A t l := by
  obtain ⟨xs, h1, h2, h3⟩ := h
  exact ⟨xs, h1, h2, h3.len, hb, fun i v x hv hx => h3.get i v x hv hx⟩
section
variable {C : Ctx} {H A : Heap}
theorem SlIs.ldS {s : Sl} {l : List Str} {i : Nat} {x : Int} {K : Str → Prop} (h : StL A s l) (hle : A.le H) (hx : x = i) (hi : i < l.length) (k : K l[i]) : ixa s x fun p => Sx.ldS H (p.1, p.2 + x.toNat * 1) K :=
  SlIs.at_ h hle (z := 1) (fun _ => rfl) (by omega) hx hi fun p y hy hr => ⟨y, by have := hr 0 _ rfl; rw [Nat.add_zero] at this; exact this, by rw [hy]; exact k⟩
theorem texts_body {l m : List Str} {s t : Sl} {K : Bool → Heap → Prop} (hs : StL A s l) (ht : StL A t m) (hA : A.le H) (k : K (sm l m) H) :
    ift (((Sl.len s : Int) : Int) != (Sl.len t : Int))
     (K false H)
     (lp (α := Int) 0 H (fun x2 J3 H4 =>
     ift (decide ((x2 : Int) < (Sl.len s : Int)))
     (ixa s x2 fun p6 =>
     Sx.ldS H4 (p6.1, p6.2 + (x2 : Int).toNat * 1) fun x11 =>
     ixa t x2 fun p13 =>
     Sx.ldS H4 (p13.1, p13.2 + (x2 : Int).toNat * 1) fun x18 =>
     ift (!(x11 == x18))
     (K false H4)
     (J3 (w .i64 (x2 + 1)) H4))
     (K true H4))) := by
  rw [SlIs.len hs, SlIs.len ht]
  refine ift.of (fun h => ?_) (fun h => ?_)
  · have : l ≠ m := fun e => by subst e; simp at h
    rw [sm_no this] at k; exact k
  have hl : l.length = m.length := Int.ofNat.inj (show (l.length : Int) = m.length by simpa using h)
  have hb := SlIs.bd hs
  refine ⟨fun x D => D = H ∧ ∃ i : Nat, x = (i : Int) ∧ i ≤ l.length ∧ l.take i = m.take i, fun x _ => l.length - x.toNat, ⟨rfl, 0, rfl, Nat.zero_le _, rfl⟩, ?_⟩
  rintro _ D ⟨rfl, i, rfl, hi, hq⟩
  refine ift.of (fun h => ?_) (fun h => ?_)
  · have hlt : i < l.length := by have := of_decide_eq_true h; omega
    have hlt2 : i < m.length := by omega
    refine SlIs.ldS hs hA rfl hlt (SlIs.ldS ht hA rfl hlt2 ?_)
    refine ift.of (fun h => ?_) (fun h => ?_)
    · have : l[i] ≠ m[i] := by simpa using h
      rw [sm_no (get_ne hlt hlt2 this)] at k; exact k
    · have : l[i] = m[i] := by simpa using h
      rw [w_i64 (by omega) (by omega)]
      exact ⟨⟨rfl, i + 1, by omega, by omega, take_eq hlt hlt2 hq this⟩, by first | omega | (dsimp only; omega)⟩
  · have hie : i = l.length := by have := of_decide_eq_false h; omega
    rw [sm_yes (take_all hie hl hq)] at k
    exact k
theorem eqS_ok {l m : List Str} {s t : Sl} {K : Bool → Heap → Prop} (hs : StL A s l) (ht : StL A t m) (hA : A.le H) (k : K (sm l m) H) : c_slices_Equal_string_string C s t K H := by
  apply ad_slices_Equal_string_string
  unfold sh_slices_Equal_string_string
  exact texts_body hs ht hA k
theorem SameTexts_ok {l m : List Str} {s t : Sl} {K : Bool → Heap → Prop} (hs : StL A s l) (ht : StL A t m) (hA : A.le H) (k : K (sm l m) H) : c_ref06_SameTexts C s t K H := by
  apply ad_ref06_SameTexts
  unfold sh_ref06_SameTexts
  exact texts_body hs ht hA k
theorem sameValue_ok : ∀ (v : V) {w : V} {x y : TV} {H : Heap} {K : Bool → Heap → Prop}, VIs A v x → VIs A w y → VB v → VB w → A.le H → K (sm v w) H → c_tree_sameValue C x y K H := by
  refine V.rec_ fun v ih w x y H K hx hy hv hw hA k => ?_
  have hx' := VIs_iff.1 hx
  have hy' := VIs_iff.1 hy
  apply c_tree_sameValue.gh
  apply ad_tree_sameValue
  unfold sh_tree_sameValue
  refine box2 fun b1 b3 H4 hle h1 h3 => fI h1 rfl (fI h3 rfl ?_)
  have hA4 := hA.trans hle
  refine jb (P := v.k = w.k ∧ v.n = w.n) H4 ?_ fun b9 hb9 => ?_
  · have i1 := iq hx'.1 hy'.1
    exact ift.of (fun h => fI h1 rfl (fI h3 rfl ⟨rfl, yand i1 h (iq hx'.2.1 hy'.2.1)⟩)) (fun h => ⟨rfl, nand i1 h⟩)
  refine jb (P := (v.k = w.k ∧ v.n = w.n) ∧ v.s = w.s) H4 ?_ fun b18 hb18 => ?_
  · exact ift.of (fun h => fS h1 rfl (fS h3 rfl ⟨rfl, yand hb9 h (sq hx'.2.2.1 hy'.2.2.1)⟩)) (fun h => ⟨rfl, nand hb9 h⟩)
  refine jb (P := v = w) H4 ?_ fun b27 hb27 => ⟨H, Gh.le hle, by rw [sm_of hb27]; exact k⟩
  rw [V.eq_iff]
  refine ift.of (fun h => fL h1 rfl (fL h3 rfl ?_)) (fun h => ⟨rfl, nand hb18 h⟩)
  refine EqF_Value (VL hx'.2.2.2 hv.l) (VL hy'.2.2.2 hw.l) hA4 (fun i g1 g2 x2 y2 D Φ hD q1 q2 hΦ => cu ok_tree_sameValue (ih _ (List.getElem_mem g1) q1 q2 (hv.ls.mem (List.getElem_mem g1)) (hw.ls.mem (List.getElem_mem g2)) hD hΦ)) ⟨rfl, yand hb18 h sm_t⟩
theorem sameType_ok : ∀ (v : TyV) {w : TyV} {x y : T_api_Type} {H : Heap} {K : Bool → Heap → Prop}, TyIs A v x → TyIs A w y → A.le H → K (sm v w) H → c_tree_sameType C x y K H := by
  refine TyV.rec_ fun v ih w x y H K hx hy hA k => ?_
  have hx' := TyIs_iff.1 hx
  have hy' := TyIs_iff.1 hy
  apply c_tree_sameType.gh
  apply ad_tree_sameType
  unfold sh_tree_sameType
  refine box2 fun b1 b3 H4 hle h1 h3 => fS h1 rfl (fS h3 rfl ?_)
  refine jb (P := v = w) H4 ?_ fun b hb => ⟨H, Gh.le hle, by rw [sm_of hb]; exact k⟩
  rw [TyV.eq_iff]
  have i1 := sq hx'.1 hy'.1
  refine ift.of (fun h => fL h1 rfl (fL h3 rfl ?_)) (fun h => ⟨rfl, nand i1 h⟩)
  exact EqF_Type hx'.2 hy'.2 (hA.trans hle) (fun i g1 g2 x2 y2 D Φ hD q1 q2 hΦ => cu ok_tree_sameType (ih _ (List.getElem_mem g1) q1 q2 hD hΦ)) ⟨rfl, yand i1 h sm_t⟩
theorem sameExpr_ok : ∀ (v : ExV) {w : ExV} {x y : T_api_Expr} {H : Heap} {K : Bool → Heap → Prop}, ExIs A v x → ExIs A w y → A.le H → K (sm v w) H → c_tree_sameExpr C x y K H := by
  refine ExV.rec_ fun v ih w x y H K hx hy hA k => ?_
  have hx' := ExIs_iff.1 hx
  have hy' := ExIs_iff.1 hy
  apply c_tree_sameExpr.gh
  apply ad_tree_sameExpr
  unfold sh_tree_sameExpr
  refine box2 fun b1 b3 H4 hle h1 h3 => fI h1 rfl (fI h3 rfl ?_)
  have hA4 := hA.trans hle
  refine jb (P := v.k = w.k ∧ v.n = w.n) H4 ?_ fun b9 hb9 => ?_
  · have i1 := iq hx'.1 hy'.1
    exact ift.of (fun h => fS h1 rfl (fS h3 rfl ⟨rfl, yand i1 h (sq hx'.2.1 hy'.2.1)⟩)) (fun h => ⟨rfl, nand i1 h⟩)
  refine jb (P := (v.k = w.k ∧ v.n = w.n) ∧ v.v = w.v) H4 ?_ fun b18 hb18 => ?_
  · refine ift.of (fun h => fT h1 (x := x.Value_) (fun i u hi => ?_) (fT h3 (x := y.Value_) (fun i u hi => ?_) (sameValue_ok _ hx'.2.2.1 hy'.2.2.1 hx'.2.2.2.1 hy'.2.2.2.1 hA4 ⟨rfl, yand hb9 h sm_t⟩))) (fun h => ⟨rfl, nand hb9 h⟩)
    all_goals
      match i, hi with
      | 0, hi => exact hi
      | 1, hi => exact hi
      | 2, hi => exact hi
      | 3, hi => exact hi
      | i + 4, hi => simp [T_api_Value.c] at hi
  refine jb (P := v = w) H4 ?_ fun b27 hb27 => ⟨H, Gh.le hle, by rw [sm_of hb27]; exact k⟩
  rw [ExV.eq_iff]
  refine ift.of (fun h => fL h1 rfl (fL h3 rfl ?_)) (fun h => ⟨rfl, nand hb18 h⟩)
  exact EqF_Expr hx'.2.2.2.2 hy'.2.2.2.2 hA4 (fun i g1 g2 x2 y2 D Φ hD q1 q2 hΦ => cu ok_tree_sameExpr (ih _ (List.getElem_mem g1) q1 q2 hD hΦ)) ⟨rfl, yand hb18 h sm_t⟩
theorem sameLiteral_ok {v w : LiV} {x y : T_api_Literal} {K : Bool → Heap → Prop} (hx : LiIs A v x) (hy : LiIs A w y) (hA : A.le H) (k : K (sm v w) H) : c_tree_sameLiteral C x y K H := by
  apply c_tree_sameLiteral.gh
  apply ad_tree_sameLiteral
  unfold sh_tree_sameLiteral
  refine box2 fun b1 b3 H4 hle h1 h3 => fI h1 rfl (fI h3 rfl ?_)
  refine jb (P := v.k = w.k ∧ v.r = w.r) H4 ?_ fun b9 hb9 => ?_
  · have i1 := iq hx.1 hy.1
    exact ift.of (fun h => fS h1 rfl (fS h3 rfl ⟨rfl, yand i1 h (sq hx.2.1 hy.2.1)⟩)) (fun h => ⟨rfl, nand i1 h⟩)
  refine jb (P := v = w) H4 ?_ fun b hb => ⟨H, Gh.le hle, by rw [sm_of hb]; exact k⟩
  rw [LiV.eq_iff]
  refine ift.of (fun h => fL h1 rfl (fL h3 rfl ?_)) (fun h => ⟨rfl, nand hb9 h⟩)
  exact EqF_Expr hx.2.2 hy.2.2 (hA.trans hle) (fun i g1 g2 x2 y2 D Φ hD q1 q2 hΦ => cu ok_tree_sameExpr (sameExpr_ok _ q1 q2 hD hΦ)) ⟨rfl, yand hb9 h sm_t⟩
theorem ty_at {x : T_api_FieldDef} (i : Nat) (u : Value) (hi : (T_api_Type.c x.Type_)[i]? = some u) : (T_api_FieldDef.c x)[1 + i]? = some u := by
  match i, hi with
  | 0, hi => exact hi
  | 1, hi => exact hi
  | i + 2, hi => simp [T_api_Type.c] at hi
theorem sameField_ok {v w : FdV} {x y : T_api_FieldDef} {K : Bool → Heap → Prop} (hx : FdIs A v x) (hy : FdIs A w y) (hA : A.le H) (k : K (sm v w) H) : c_tree_sameField C x y K H := by
  apply c_tree_sameField.gh
  apply ad_tree_sameField
  unfold sh_tree_sameField
  refine box2 fun b1 b3 H4 hle h1 h3 => fS h1 rfl (fS h3 rfl ?_)
  refine jb (P := v = w) H4 ?_ fun b hb => ⟨H, Gh.le hle, by rw [sm_of hb]; exact k⟩
  rw [FdV.eq_iff]
  have i1 := sq hx.1 hy.1
  exact ift.of (fun h => fT h1 ty_at (fT h3 ty_at (sameType_ok _ hx.2 hy.2 (hA.trans hle) ⟨rfl, yand i1 h sm_t⟩))) (fun h => ⟨rfl, nand i1 h⟩)
theorem Fields_eq {l m : List FdV} {s t : Sl} {K : Bool → Heap → Prop} (hs : FdL A s l) (ht : FdL A t m) (hA : A.le H) (k : K (sm l m) H) : c_slices_EqualFunc_api_FieldDef_api_FieldDef_api_FieldDef_api_FieldDef C s t (.func (.func 76) (List.toArray []) (List.toArray []) : Value) K H :=
  EqF_FieldDef hs ht hA (fun i g1 g2 x2 y2 D Φ hD q1 q2 hΦ => cu ok_tree_sameField (sameField_ok q1 q2 hD hΦ)) k
theorem Body_eq {l m : List LiV} {s t : Sl} {K : Bool → Heap → Prop} (hs : LiL A s l) (ht : LiL A t m) (hA : A.le H) (k : K (sm l m) H) : c_slices_EqualFunc_api_Literal_api_Literal_api_Literal_api_Literal C s t (.func (.func 84) (List.toArray []) (List.toArray []) : Value) K H :=
  EqF_Literal hs ht hA (fun i g1 g2 x2 y2 D Φ hD q1 q2 hΦ => cu ok_tree_sameLiteral (sameLiteral_ok q1 q2 hD hΦ)) k
theorem Same_1_ok {v w : Str} {x y : T_api_Import} {K : Bool → Heap → Prop} (hx : ImIs v x) (hy : ImIs w y) (k : K (sm v w) H) : c_tree_Same_1 C x y K H := by
  apply c_tree_Same_1.gh
  apply ad_tree_Same_1
  unfold sh_tree_Same_1
  refine box2 fun b1 b3 H4 hle h1 h3 => fS h1 rfl (fS h3 rfl ⟨H, Gh.le hle, ?_⟩)
  rw [sm_of (sq hx hy)]; exact k
theorem Same_2_1_ok {v w : CnV} {x y : T_api_ConsDef} {K : Bool → Heap → Prop} (hx : CnIs A v x) (hy : CnIs A w y) (hA : A.le H) (k : K (sm v w) H) : c_tree_Same_2_1 C x y K H := by
  apply c_tree_Same_2_1.gh
  apply ad_tree_Same_2_1
  unfold sh_tree_Same_2_1
  refine box2 fun b1 b3 H4 hle h1 h3 => fS h1 rfl (fS h3 rfl ?_)
  refine jb (P := v = w) H4 ?_ fun b hb => ⟨H, Gh.le hle, by rw [sm_of hb]; exact k⟩
  rw [CnV.eq_iff]
  have i1 := sq hx.1 hy.1
  exact ift.of (fun h => fL h1 rfl (fL h3 rfl (Fields_eq hx.2 hy.2 (hA.trans hle) ⟨rfl, yand i1 h sm_t⟩))) (fun h => ⟨rfl, nand i1 h⟩)
theorem Same_2_ok {v w : TdV} {x y : T_api_TypeDef} {K : Bool → Heap → Prop} (hx : TdIs A v x) (hy : TdIs A w y) (hA : A.le H) (k : K (sm v w) H) : c_tree_Same_2 C x y K H := by
  apply c_tree_Same_2.gh
  apply ad_tree_Same_2
  unfold sh_tree_Same_2
  refine box2 fun b1 b3 H4 hle h1 h3 => fB h1 rfl (fB h3 rfl ?_)
  have hA4 := hA.trans hle
  refine jb (P := v.p = w.p ∧ v.n = w.n) H4 ?_ fun b9 hb9 => ?_
  · have i1 := bq hx.1 hy.1
    exact ift.of (fun h => fS h1 rfl (fS h3 rfl ⟨rfl, yand i1 h (sq hx.2.1 hy.2.1)⟩)) (fun h => ⟨rfl, nand i1 h⟩)
  refine jb (P := (v.p = w.p ∧ v.n = w.n) ∧ v.ps = w.ps) H4 ?_ fun b18 hb18 => ?_
  · exact ift.of (fun h => fL h1 rfl (fL h3 rfl (eqS_ok hx.2.2.1 hy.2.2.1 hA4 ⟨rfl, yand hb9 h sm_t⟩))) (fun h => ⟨rfl, nand hb9 h⟩)
  refine jb (P := v = w) H4 ?_ fun b hb => ⟨H, Gh.le hle, by rw [sm_of hb]; exact k⟩
  rw [TdV.eq_iff]
  exact ift.of (fun h => fL h1 rfl (fL h3 rfl (EqF_ConsDef hx.2.2.2 hy.2.2.2 hA4 (fun i g1 g2 x2 y2 D Φ hD q1 q2 hΦ => cu ok_tree_Same_2_1 (Same_2_1_ok q1 q2 hD hΦ)) ⟨rfl, yand hb18 h sm_t⟩))) (fun h => ⟨rfl, nand hb18 h⟩)
theorem Same_3_ok {v w : RdV} {x y : T_api_RelDef} {K : Bool → Heap → Prop} (hx : RdIs A v x) (hy : RdIs A w y) (hA : A.le H) (k : K (sm v w) H) : c_tree_Same_3 C x y K H := by
  apply c_tree_Same_3.gh
  apply ad_tree_Same_3
  unfold sh_tree_Same_3
  refine box2 fun b1 b3 H4 hle h1 h3 => fB h1 rfl (fB h3 rfl ?_)
  have hA4 := hA.trans hle
  refine jb (P := v.p = w.p ∧ v.i = w.i) H4 ?_ fun b9 hb9 => ?_
  · have i1 := bq hx.1 hy.1
    exact ift.of (fun h => fB h1 rfl (fB h3 rfl ⟨rfl, yand i1 h (bq hx.2.1 hy.2.1)⟩)) (fun h => ⟨rfl, nand i1 h⟩)
  refine jb (P := (v.p = w.p ∧ v.i = w.i) ∧ v.n = w.n) H4 ?_ fun b18 hb18 => ?_
  · exact ift.of (fun h => fS h1 rfl (fS h3 rfl ⟨rfl, yand hb9 h (sq hx.2.2.1 hy.2.2.1)⟩)) (fun h => ⟨rfl, nand hb9 h⟩)
  refine jb (P := v = w) H4 ?_ fun b hb => ⟨H, Gh.le hle, by rw [sm_of hb]; exact k⟩
  rw [RdV.eq_iff]
  exact ift.of (fun h => fL h1 rfl (fL h3 rfl (Fields_eq hx.2.2.2 hy.2.2.2 hA4 ⟨rfl, yand hb18 h sm_t⟩))) (fun h => ⟨rfl, nand hb18 h⟩)
theorem Same_4_ok {v w : RuV} {x y : T_api_Rule} {K : Bool → Heap → Prop} (hx : RuIs A v x) (hy : RuIs A w y) (hA : A.le H) (k : K (sm v w) H) : c_tree_Same_4 C x y K H := by
  apply c_tree_Same_4.gh
  apply ad_tree_Same_4
  unfold sh_tree_Same_4
  refine box2 fun b1 b3 H4 hle h1 h3 => fS h1 rfl (fS h3 rfl ?_)
  have hA4 := hA.trans hle
  refine jb (P := v.r = w.r ∧ v.a = w.a) H4 ?_ fun b9 hb9 => ?_
  · have i1 := sq hx.1 hy.1
    exact ift.of (fun h => fL h1 rfl (fL h3 rfl (EqF_Expr hx.2.1 hy.2.1 hA4 (fun i g1 g2 x2 y2 D Φ hD q1 q2 hΦ => cu ok_tree_sameExpr (sameExpr_ok _ q1 q2 hD hΦ)) ⟨rfl, yand i1 h sm_t⟩))) (fun h => ⟨rfl, nand i1 h⟩)
  refine jb (P := (v.r = w.r ∧ v.a = w.a) ∧ v.g = w.g) H4 ?_ fun b18 hb18 => ?_
  · exact ift.of (fun h => fL h1 rfl (fL h3 rfl (eqS_ok hx.2.2.1 hy.2.2.1 hA4 ⟨rfl, yand hb9 h sm_t⟩))) (fun h => ⟨rfl, nand hb9 h⟩)
  refine jb (P := v = w) H4 ?_ fun b hb => ⟨H, Gh.le hle, by rw [sm_of hb]; exact k⟩
  rw [RuV.eq_iff]
  exact ift.of (fun h => fL h1 rfl (fL h3 rfl (Body_eq hx.2.2.2 hy.2.2.2 hA4 ⟨rfl, yand hb18 h sm_t⟩))) (fun h => ⟨rfl, nand hb18 h⟩)
theorem Same_5_ok {v w : NeV} {x y : T_api_Never} {K : Bool → Heap → Prop} (hx : NeIs A v x) (hy : NeIs A w y) (hA : A.le H) (k : K (sm v w) H) : c_tree_Same_5 C x y K H := by
  apply c_tree_Same_5.gh
  apply ad_tree_Same_5
  unfold sh_tree_Same_5
  refine box2 fun b1 b3 H4 hle h1 h3 => fS h1 rfl (fS h3 rfl ?_)
  refine jb (P := v = w) H4 ?_ fun b hb => ⟨H, Gh.le hle, by rw [sm_of hb]; exact k⟩
  rw [NeV.eq_iff]
  have i1 := sq hx.1 hy.1
  exact ift.of (fun h => fL h1 rfl (fL h3 rfl (Body_eq hx.2 hy.2 (hA.trans hle) ⟨rfl, yand i1 h sm_t⟩))) (fun h => ⟨rfl, nand i1 h⟩)
theorem tSame_ok {v w : MoV} {x y : T_api_Module} {K : Bool → Heap → Prop} (hx : MoIs A v x) (hy : MoIs A w y) (hA : A.le H) (k : K (sm v w) H) : c_tree_Same C x y K H := by
  apply c_tree_Same.gh
  apply ad_tree_Same
  unfold sh_tree_Same
  refine box2 fun b1 b3 H4 hle h1 h3 => fS h1 rfl (fS h3 rfl ?_)
  have hA4 := hA.trans hle
  obtain ⟨x1, x2, x3, x4, x5, x6⟩ := hx
  obtain ⟨y1, y2, y3, y4, y5, y6⟩ := hy
  refine jb (P := v.n = w.n ∧ v.im = w.im) H4 ?_ fun b9 hb9 => ?_
  · have i1 := sq x1 y1
    exact ift.of (fun h => fL h1 rfl (fL h3 rfl (EqF_Import x2 y2 hA4 (fun i g1 g2 x2 y2 D Φ hD q1 q2 hΦ => cu ok_tree_Same_1 (Same_1_ok q1 q2 hΦ)) ⟨rfl, yand i1 h sm_t⟩))) (fun h => ⟨rfl, nand i1 h⟩)
  refine jb (P := (v.n = w.n ∧ v.im = w.im) ∧ v.ty = w.ty) H4 ?_ fun b20 hb20 => ?_
  · exact ift.of (fun h => fL h1 rfl (fL h3 rfl (EqF_TypeDef x3 y3 hA4 (fun i g1 g2 x2 y2 D Φ hD q1 q2 hΦ => cu ok_tree_Same_2 (Same_2_ok q1 q2 hD hΦ)) ⟨rfl, yand hb9 h sm_t⟩))) (fun h => ⟨rfl, nand hb9 h⟩)
  refine jb (P := ((v.n = w.n ∧ v.im = w.im) ∧ v.ty = w.ty) ∧ v.re = w.re) H4 ?_ fun b31 hb31 => ?_
  · exact ift.of (fun h => fL h1 rfl (fL h3 rfl (EqF_RelDef x4 y4 hA4 (fun i g1 g2 x2 y2 D Φ hD q1 q2 hΦ => cu ok_tree_Same_3 (Same_3_ok q1 q2 hD hΦ)) ⟨rfl, yand hb20 h sm_t⟩))) (fun h => ⟨rfl, nand hb20 h⟩)
  refine jb (P := (((v.n = w.n ∧ v.im = w.im) ∧ v.ty = w.ty) ∧ v.re = w.re) ∧ v.ru = w.ru) H4 ?_ fun b42 hb42 => ?_
  · exact ift.of (fun h => fL h1 rfl (fL h3 rfl (EqF_Rule x5 y5 hA4 (fun i g1 g2 x2 y2 D Φ hD q1 q2 hΦ => cu ok_tree_Same_4 (Same_4_ok q1 q2 hD hΦ)) ⟨rfl, yand hb31 h sm_t⟩))) (fun h => ⟨rfl, nand hb31 h⟩)
  refine jb (P := v = w) H4 ?_ fun b hb => ⟨H, Gh.le hle, by rw [sm_of hb]; exact k⟩
  rw [MoV.eq_iff]
  exact ift.of (fun h => fL h1 rfl (fL h3 rfl (EqF_Never x6 y6 hA4 (fun i g1 g2 x2 y2 D Φ hD q1 q2 hΦ => cu ok_tree_Same_5 (Same_5_ok q1 q2 hD hΦ)) ⟨rfl, yand hb42 h sm_t⟩))) (fun h => ⟨rfl, nand hb42 h⟩)
end
end Sx
end

noncomputable section
set_option linter.unusedVariables false
set_option linter.unusedSimpArgs false
set_option maxRecDepth 10000
namespace Sx
open Go Go.Proofs
section
variable {C : Ctx}
theorem sameVs_len : ∀ {l m : List V}, sameVs l m = true → l.length = m.length
  | [], [], _ => rfl
  | [], _ :: _, h => by simp [sameVs] at h
  | _ :: _, [], h => by simp [sameVs] at h
  | v :: l, w :: m, h => by
    simp only [sameVs, Bool.and_eq_true] at h
    have := sameVs_len h.2
    simp [this]
theorem SameRow_gen {l m : List V} {s t : Sl} {H : Heap} {K : Bool → Heap → Prop} (hs : VRow H s l) (ht : VRow H t m) (hl : l.length ≤ 140737488355328)
    (ih : ∀ v ∈ l, ∀ w, ∀ {x y : TV} {K : Bool → Heap → Prop}, VIs H v x → VIs H w y → w ∈ m → K (sameV v w) H → c_ref02_Same C x y K H) (k : K (sameVs l m) H) : c_ref02_SameRow C s t K H := by
  apply ad_ref02_SameRow
  unfold sh_ref02_SameRow
  rw [hs.len, ht.len]
  by_cases hlm : l.length = m.length
  rotate_left
  · refine ift_pos (by simp; omega) ?_
    cases hh : sameVs l m with
    | true => exact absurd (sameVs_len hh) hlm
    | false => rw [hh] at k; exact k
  refine ift_neg (by simp; omega) ?_
  refine ⟨fun x H' => ∃ i : Nat, x = (i : Int) ∧ i ≤ l.length ∧ H = H' ∧ sameVs l m = sameVs (l.drop i) (m.drop i), fun x _ => l.length - x.toNat, ⟨0, rfl, Nat.zero_le _, rfl, rfl⟩, ?_⟩
  rintro x _ ⟨i, rfl, hi, rfl, ha⟩
  refine ift.of (fun h => ?_) (fun h => ?_)
  · have h1 : i < l.length := by have := of_decide_eq_true h; omega
    have h2 : i < m.length := by omega
    have m1 := List.getElem_mem h1
    have m2 := List.getElem_mem h2
    rw [List.drop_eq_getElem_cons h1, List.drop_eq_getElem_cons h2] at ha
    simp only [sameVs] at ha
    refine ⟨H, Heap.le.refl _, ?_⟩
    refine hs.ld (Heap.le.refl _) rfl h1 fun y hy => ?_
    refine ht.ld (Heap.le.refl _) rfl h2 fun z hz => ?_
    refine ih _ m1 _ hy hz m2 ⟨Heap.le.refl _, ?_⟩
    refine ift.of (fun h => ?_) (fun h => ?_)
    · have h : sameV l[i] m[i] = false := by simpa using h
      rw [ha, h] at k; exact k
    · have h : sameV l[i] m[i] = true := by simpa using h
      rw [h, Bool.true_and] at ha
      rw [w_i64 (by omega) (by omega)]
      exact ⟨⟨i + 1, by omega, by omega, rfl, ha⟩, by first | omega | (dsimp only; omega)⟩
  · have hie : i = l.length := by have := of_decide_eq_false h; omega
    rw [hie, List.drop_length, hlm, List.drop_length] at ha
    rw [ha] at k; exact k

theorem sameV_eqn (v w : V) : sameV v w = (v.k == w.k && v.n == w.n && decide (v.s = w.s) && sameVs v.l w.l) := by
  obtain ⟨k, n, s, l⟩ := v
  obtain ⟨k', n', s', l'⟩ := w
  simp only [sameV, V.k, V.n, V.s, V.l]
  rfl

theorem Same_ok {v w : V} {x y : TV} {H : Heap} {K : Bool → Heap → Prop} (hv : VIs H v x) (hw : VIs H w y) (hB : VB v) (k : K (sameV v w) H) : c_ref02_Same C x y K H := by
  refine V.rec_ (P := fun v => ∀ {w x y H} {K : Bool → Heap → Prop}, VIs H v x → VIs H w y → VB v → K (sameV v w) H → c_ref02_Same C x y K H) (fun v ih => ?_) v hv hw hB k
  clear hv hw hB k
  intro w x y H K hv hw hB k
  apply c_ref02_Same.gh
  apply ad_ref02_Same
  unfold sh_ref02_Same
  intro b1 n1 b3 n3
  have hb3 : ((H.put b1 (.row (T_api_Value.c x))).put b3 (.row (T_api_Value.c y))) b3 = some (true, .row (T_api_Value.c y)) := Heap.put_same ..
  have hne : b1 ≠ b3 := fun e => by rw [e, Heap.put_same] at n3; cases n3
  have hb1 : ((H.put b1 (.row (T_api_Value.c x))).put b3 (.row (T_api_Value.c y))) b1 = some (true, .row (T_api_Value.c x)) := by rw [Heap.put_ne _ _ _ hne, Heap.put_same]
  have hle := (Heap.le_put n1 (g := .row (T_api_Value.c x)) (m := true)).trans (Heap.le_put n3 (g := .row (T_api_Value.c y)) (m := true))
  generalize (H.put b1 (.row (T_api_Value.c x))).put b3 (.row (T_api_Value.c y)) = H1 at *
  have k' : ∃ H0, Gh C H1 H0 ∧ K (sameV v w) H0 := ⟨H, Gh.le hle, k⟩
  rw [sameV_eqn] at k'
  refine bxK hb1 (bxK hb3 ?_)
  rw [hv.kind, hw.kind]
  refine ⟨fun b H' => H1 = H' ∧ b = (v.k == w.k && v.n == w.n), ?_, ?_⟩
  · refine ift.of (fun h => ?_) (fun h => ⟨rfl, by rw [h]; rfl⟩)
    refine bxN hb1 (bxN hb3 ⟨rfl, ?_⟩)
    rw [h, hv.num, hw.num]; rfl
  rintro _ _ ⟨rfl, rfl⟩
  refine ⟨fun b H' => H1 = H' ∧ b = (v.k == w.k && v.n == w.n && decide (v.s = w.s)), ?_, ?_⟩
  · refine ift.of (fun h => ?_) (fun h => ⟨rfl, by rw [h]; rfl⟩)
    refine bxS hb1 (bxS hb3 ⟨rfl, ?_⟩)
    rw [h, hv.txt, hw.txt, Bool.true_and, Bool.eq_iff_iff]; simp
  rintro _ _ ⟨rfl, rfl⟩
  refine ⟨fun b H' => H1 = H' ∧ b = (v.k == w.k && v.n == w.n && decide (v.s = w.s) && sameVs v.l w.l), ?_, ?_⟩
  · refine ift.of (fun h => ?_) (fun h => ⟨rfl, by rw [h]; rfl⟩)
    refine bxL hb1 (bxL hb3 ?_)
    refine SameRow_gen (hv.row.le hle) (hw.row.le hle) hB.l (fun p hp q {x' y'} {K'} hx hy _ kk => ih p hp hx hy (hB.ls.mem hp) kk) ⟨rfl, ?_⟩
    rw [h]; rfl
  rintro _ _ ⟨rfl, rfl⟩
  exact k'
end
end Sx
end

noncomputable section
set_option linter.unusedVariables false
set_option linter.unusedSimpArgs false
set_option maxRecDepth 10000
namespace Sx
open Go Go.Proofs
theorem n1 {b : Bool} {P Q : Prop} (hb : b = true ↔ ¬P) (h : b = true) : (true = true ↔ ¬(P ∧ Q)) := ⟨fun _ hh => hb.1 h hh.1, fun _ => rfl⟩
theorem n2 {b r : Bool} {P Q : Prop} (hb : b = true ↔ ¬P) (h : b = false) (hr : r = true ↔ ¬Q) : (r = true ↔ ¬(P ∧ Q)) := by
  have hp : P := Classical.byContradiction fun e => by rw [hb.2 e] at h; cases h
  rw [hr]; exact ⟨fun hq hh => hq hh.2, fun hh hq => hh ⟨hp, hq⟩⟩
theorem n3 {b : Bool} {P : Prop} (hb : b = true ↔ ¬P) (h : b = false) : P := Classical.byContradiction fun e => by rw [hb.2 e] at h; cases h
theorem nsq {a b a' b' : Str} (ha : a = a') (hb : b = b') : ((!(a == b)) = true ↔ ¬ a' = b') := by rw [ha, hb]; simp
theorem nbq {a b a' b' : Bool} (ha : a = a') (hb : b = b') : ((!(a == b)) = true ↔ ¬ a' = b') := by rw [ha, hb]; simp
theorem niq {a b a' b' : Int} (ha : a = a') (hb : b = b') : ((a != b) = true ↔ ¬ a' = b') := by rw [ha, hb]; simp
theorem nsm {α : Type} {v w : α} : ((!(sm v w)) = true ↔ ¬ v = w) := by rw [Bool.not_eq_true', ← Bool.not_eq_true, sm_t]
theorem nlen {α β α' β' : Type} {R : α → β → Prop} {c : β → List Value} {R' : α' → β' → Prop} {c' : β' → List Value} {A B : Heap} {s t : Sl} {l : List α} {m : List α'} (h1 : SlIs R c A s l) (h2 : SlIs R' c' B t m) : ((((Sl.len s : Int) : Int) != (Sl.len t : Int)) = true ↔ ¬ l.length = m.length) := by
  rw [h1.len, h2.len, bne_iff_ne]; omega
theorem lpEq {α : Type} {l m : List α} {H : Heap} {body : Int → (Int → Heap → Prop) → Heap → Prop} (hb : l.length ≤ 140737488355328)
    (step : ∀ (i : Nat) (D : Heap) (J : Int → Heap → Prop), H.le D → i ≤ l.length → l.take i = m.take i → (i < l.length → ∀ D', H.le D' → l.take (i + 1) = m.take (i + 1) → J (w .i64 ((i : Int) + 1)) D') → body (i : Int) J D) : lp (α := Int) 0 H body := by
  refine ⟨fun x D => H.le D ∧ ∃ i : Nat, x = (i : Int) ∧ i ≤ l.length ∧ l.take i = m.take i, fun x _ => l.length - x.toNat, ⟨Heap.le.refl _, 0, rfl, Nat.zero_le _, rfl⟩, ?_⟩
  rintro _ D ⟨hD, i, rfl, hi, hq⟩
  refine step i D _ hD hi hq fun hlt D' hD' ht => ?_
  rw [w_i64 (by omega) (by omega)]
  exact ⟨⟨hD', i + 1, by omega, by omega, ht⟩, by first | omega | (dsimp only; omega)⟩
theorem lpN {n0 : Int} {N : Nat} {H : Heap} {body : Int × Int → (Int × Int → Heap → Prop) → Heap → Prop} (hb : N ≤ 140737488355328)
    (step : ∀ (n : Int) (i : Nat) (D : Heap) (J : Int × Int → Heap → Prop), H.le D → i ≤ N → (i < N → ∀ n' D', H.le D' → J (n', w .i64 ((i : Int) + 1)) D') → body (n, (i : Int)) J D) : lp (α := Int × Int) (n0, 0) H body := by
  refine ⟨fun x D => H.le D ∧ ∃ i : Nat, x.2 = (i : Int) ∧ i ≤ N, fun x _ => N - x.2.toNat, ⟨Heap.le.refl _, 0, rfl, Nat.zero_le _⟩, ?_⟩
  rintro ⟨n, _⟩ D ⟨hD, i, rfl, hi⟩
  refine step n i D _ hD hi fun hlt n' D' hD' => ?_
  rw [w_i64 (by omega) (by omega)]
  exact ⟨⟨hD', i + 1, rfl, by omega⟩, by first | omega | (dsimp only; omega)⟩
section
variable {C : Ctx} {H A : Heap}
theorem SameType_ok : ∀ (v : TyV) {w : TyV} {x y : T_api_Type} {H : Heap} {K : Bool → Heap → Prop}, TyIs A v x → TyIs A w y → A.le H → K (sm v w) H → c_ref06_SameType C x y K H := by
  refine TyV.rec_ fun v ih w' x y H K hx hy hA k => ?_
  have hx' := TyIs_iff.1 hx
  have hy' := TyIs_iff.1 hy
  apply c_ref06_SameType.gh
  apply ad_ref06_SameType
  unfold sh_ref06_SameType
  refine box2 fun b1 b3 H4 hle h1 h3 => fS h1 rfl (fS h3 rfl ?_)
  have hA4 := hA.trans hle
  refine jb (P := ¬(v.n = w'.n ∧ v.a.length = w'.a.length)) H4 ?_ fun b hb => ?_
  · have i1 := nsq hx'.1 hy'.1
    exact ift.of (fun h => ⟨rfl, n1 i1 h⟩) (fun h => fL h1 rfl (fL h3 rfl ⟨rfl, n2 i1 h (nlen hx'.2 hy'.2)⟩))
  refine ift.of (fun h => ?_) (fun h => ?_)
  · rw [sm_no (fun e => hb.1 h (by subst e; exact ⟨rfl, rfl⟩))] at k; exact ⟨H, Gh.le hle, k⟩
  have hq := n3 hb h
  refine lpEq (l := v.a) (m := w'.a) (SlIs.bd hx'.2) fun i D J hD hi ht hJ => ?_
  refine fL (hD _ _ h1) rfl ?_
  rw [SlIs.len hx'.2]
  refine ift.of (fun h => ?_) (fun h => ?_)
  · have hlt : i < v.a.length := by have := of_decide_eq_true h; omega
    have hlt2 : i < w'.a.length := by omega
    have hAD := hA4.trans hD
    refine ⟨D, Heap.le.refl _, fL (hD _ _ h1) rfl (SlIs.ld hx'.2 hAD len_Type (by omega) rfl hlt fun x2 hx2 => fL (hD _ _ h3) rfl (SlIs.ld hy'.2 hAD len_Type (by omega) rfl hlt2 fun y2 hy2 => ih _ (List.getElem_mem hlt) hx2 hy2 hAD ⟨Heap.le.refl _, ?_⟩))⟩
    by_cases e : v.a[i] = w'.a[i]
    · rw [sm_yes e]; exact ift_neg rfl (hJ hlt _ hD (take_eq hlt hlt2 ht e))
    · rw [sm_no e]; rw [sm_no (fun e2 => get_ne hlt hlt2 e (by rw [e2]))] at k; exact ift_pos rfl ⟨H, Gh.le (hle.trans hD), k⟩
  · have hie : i = v.a.length := by have := of_decide_eq_false h; omega
    rw [sm_yes (TyV.eq_iff.2 ⟨hq.1, take_all hie hq.2 ht⟩)] at k
    exact ⟨H, Gh.le (hle.trans hD), k⟩
theorem SameExprs_gen {l m : List ExV} {s t : Sl} {K : Bool → Heap → Prop} (hs : ExL A s l) (ht : ExL A t m) (hA : A.le H)
    (ih : ∀ (p : ExV), p ∈ l → ∀ {w : ExV} {x y : T_api_Expr} {D : Heap} {K : Bool → Heap → Prop}, ExIs A p x → ExIs A w y → A.le D → K (sm p w) D → c_ref06_SameExpr C x y K D) (k : K (sm l m) H) : c_ref06_SameExprs C s t K H := by
  apply c_ref06_SameExprs.gh
  apply ad_ref06_SameExprs
  unfold sh_ref06_SameExprs
  have i1 := nlen hs ht
  refine ift.of (fun h => ?_) (fun h => ?_)
  · rw [sm_no (fun e => i1.1 h (by rw [e]))] at k; exact ⟨H, Gh.refl _, k⟩
  have hq := n3 i1 h
  refine lpEq (l := l) (m := m) hs.bd fun i D J hD hi hh hJ => ?_
  rw [hs.len]
  refine ift.of (fun h => ?_) (fun h => ?_)
  · have hlt : i < l.length := by have := of_decide_eq_true h; omega
    have hlt2 : i < m.length := by omega
    have hAD := hA.trans hD
    refine ⟨D, Heap.le.refl _, hs.ld hAD len_Expr (by omega) rfl hlt fun x2 hx2 => ht.ld hAD len_Expr (by omega) rfl hlt2 fun y2 hy2 => ih _ (List.getElem_mem hlt) hx2 hy2 hAD ⟨Heap.le.refl _, ?_⟩⟩
    by_cases e : l[i] = m[i]
    · rw [sm_yes e]; exact ift_neg rfl (hJ hlt _ hD (take_eq hlt hlt2 hh e))
    · rw [sm_no e]; rw [sm_no (get_ne hlt hlt2 e)] at k; exact ift_pos rfl ⟨H, Gh.le hD, k⟩
  · have hie : i = l.length := by have := of_decide_eq_false h; omega
    rw [sm_yes (take_all hie hq hh)] at k
    exact ⟨H, Gh.le hD, k⟩
theorem val_at {x : T_api_Expr} (i : Nat) (u : Value) (hi : (T_api_Value.c x.Value_)[i]? = some u) : (T_api_Expr.c x)[4 + i]? = some u := by
  match i, hi with
  | 0, hi => exact hi
  | 1, hi => exact hi
  | 2, hi => exact hi
  | 3, hi => exact hi
  | i + 4, hi => simp [T_api_Value.c] at hi
theorem SameExpr_ok : ∀ (v : ExV) {w : ExV} {x y : T_api_Expr} {H : Heap} {K : Bool → Heap → Prop}, ExIs A v x → ExIs A w y → A.le H → K (sm v w) H → c_ref06_SameExpr C x y K H := by
  refine ExV.rec_ fun v ih w' x y H K hx hy hA k => ?_
  have hx' := ExIs_iff.1 hx
  have hy' := ExIs_iff.1 hy
  apply c_ref06_SameExpr.gh
  apply ad_ref06_SameExpr
  unfold sh_ref06_SameExpr
  refine box2 fun b1 b3 H4 hle h1 h3 => fI h1 rfl (fI h3 rfl ?_)
  have hA4 := hA.trans hle
  refine jb (P := v.k = w'.k ∧ v.n = w'.n) H4 ?_ fun b9 hb9 => ?_
  · have i1 := iq hx'.1 hy'.1
    exact ift.of (fun h => fS h1 rfl (fS h3 rfl ⟨rfl, yand i1 h (sq hx'.2.1 hy'.2.1)⟩)) (fun h => ⟨rfl, nand i1 h⟩)
  refine jb (P := (v.k = w'.k ∧ v.n = w'.n) ∧ v.v = w'.v) H4 ?_ fun b18 hb18 => ?_
  · exact ift.of (fun h => fT h1 val_at (fT h3 val_at (Same_ok (hx'.2.2.1.le hA4) (hy'.2.2.1.le hA4) hx'.2.2.2.1 ⟨rfl, yand hb9 h sameV_iff⟩))) (fun h => ⟨rfl, nand hb9 h⟩)
  refine jb (P := v = w') H4 ?_ fun b27 hb27 => ⟨H, Gh.le hle, by rw [sm_of hb27]; exact k⟩
  rw [ExV.eq_iff]
  refine ift.of (fun h => fL h1 rfl (fL h3 rfl ?_)) (fun h => ⟨rfl, nand hb18 h⟩)
  exact SameExprs_gen hx'.2.2.2.2 hy'.2.2.2.2 hA4 (fun p hp w x y D K g1 g2 g3 g4 => ih p hp g1 g2 g3 g4) ⟨rfl, yand hb18 h sm_t⟩
theorem SameExprs_ok {l m : List ExV} {s t : Sl} {K : Bool → Heap → Prop} (hs : ExL A s l) (ht : ExL A t m) (hA : A.le H) (k : K (sm l m) H) : c_ref06_SameExprs C s t K H :=
  SameExprs_gen hs ht hA (fun p _ w x y D K g1 g2 g3 g4 => SameExpr_ok p g1 g2 g3 g4) k
theorem SameFields_ok {l m : List FdV} {s t : Sl} {K : Bool → Heap → Prop} (hs : FdL A s l) (ht : FdL A t m) (hA : A.le H) (k : K (sm l m) H) : c_ref06_SameFields C s t K H := by
  apply c_ref06_SameFields.gh
  apply ad_ref06_SameFields
  unfold sh_ref06_SameFields
  have i1 := nlen hs ht
  refine ift.of (fun h => ?_) (fun h => ?_)
  · rw [sm_no (fun e => i1.1 h (by rw [e]))] at k; exact ⟨H, Gh.refl _, k⟩
  have hq := n3 i1 h
  refine lpEq (l := l) (m := m) hs.bd fun i D J hD hi hh hJ => ?_
  rw [hs.len]
  refine ift.of (fun h => ?_) (fun h => ?_)
  · have hlt : i < l.length := by have := of_decide_eq_true h; omega
    have hlt2 : i < m.length := by omega
    have hAD := hA.trans hD
    refine jb (P := ¬ (l[i].n = m[i].n ∧ l[i].t = m[i].t)) D ?_ fun b hb => ?_
    · refine ⟨D, Heap.le.refl _, SlIs.fS hs hAD len_FieldDef (by omega) rfl hlt (f := fun y => y.Name) (fun _ => rfl) fun y1 hy1 => SlIs.fS ht hAD len_FieldDef (by omega) rfl hlt2 (f := fun y => y.Name) (fun _ => rfl) fun y2 hy2 => ?_⟩
      have j1 := nsq hy1.1 hy2.1
      refine ift.of (fun h => ⟨rfl, n1 j1 h⟩) fun h => ?_
      refine SlIs.fT hs hAD len_FieldDef (by omega) rfl hlt (f := fun y => y.Type_) (fun y n v hn => ty_at n v hn) fun y3 hy3 => SlIs.fT ht hAD len_FieldDef (by omega) rfl hlt2 (f := fun y => y.Type_) (fun y n v hn => ty_at n v hn) fun y4 hy4 => ?_
      exact SameType_ok _ hy3.2 hy4.2 hAD ⟨Heap.le.refl _, rfl, n2 j1 h nsm⟩
    rw [← FdV.eq_iff] at hb
    refine ift.of (fun h => ?_) (fun h => ?_)
    · rw [sm_no (get_ne hlt hlt2 (hb.1 h))] at k; exact ⟨H, Gh.le hD, k⟩
    · exact hJ hlt _ hD (take_eq hlt hlt2 hh (n3 hb h))
  · have hie : i = l.length := by have := of_decide_eq_false h; omega
    rw [sm_yes (take_all hie hq hh)] at k
    exact ⟨H, Gh.le hD, k⟩
theorem SameBody_ok {l m : List LiV} {s t : Sl} {K : Bool → Heap → Prop} (hs : LiL A s l) (ht : LiL A t m) (hA : A.le H) (k : K (sm l m) H) : c_ref06_SameBody C s t K H := by
  apply c_ref06_SameBody.gh
  apply ad_ref06_SameBody
  unfold sh_ref06_SameBody
  have i1 := nlen hs ht
  refine ift.of (fun h => ?_) (fun h => ?_)
  · rw [sm_no (fun e => i1.1 h (by rw [e]))] at k; exact ⟨H, Gh.refl _, k⟩
  have hq := n3 i1 h
  refine lpEq (l := l) (m := m) hs.bd fun i D J hD hi hh hJ => ?_
  rw [hs.len]
  refine ift.of (fun h => ?_) (fun h => ?_)
  · have hlt : i < l.length := by have := of_decide_eq_true h; omega
    have hlt2 : i < m.length := by omega
    have hAD := hA.trans hD
    refine jb (P := ¬ ((l[i].k = m[i].k ∧ l[i].r = m[i].r) ∧ l[i].a = m[i].a)) D ?_ fun b hb => ?_
    · refine ⟨D, Heap.le.refl _, SlIs.fI hs hAD len_Literal (by omega) rfl hlt (f := fun y => y.Kind) (fun _ => rfl) fun y1 hy1 => SlIs.fI ht hAD len_Literal (by omega) rfl hlt2 (f := fun y => y.Kind) (fun _ => rfl) fun y2 hy2 => ?_⟩
      have j1 := niq hy1.1 hy2.1
      refine ift.of (fun h => ⟨rfl, n1 (n1 j1 h) rfl⟩) fun h => ?_
      refine SlIs.fS hs hAD len_Literal (by omega) rfl hlt (f := fun y => y.Rel) (fun _ => rfl) fun y3 hy3 => SlIs.fS ht hAD len_Literal (by omega) rfl hlt2 (f := fun y => y.Rel) (fun _ => rfl) fun y4 hy4 => ?_
      have j2 := n2 j1 h (nsq hy3.2.1 hy4.2.1)
      refine ift.of (fun h => ⟨rfl, n1 j2 h⟩) fun h => ?_
      refine SlIs.fL hs hAD len_Literal (by omega) rfl hlt (f := fun y => y.Args) (fun _ => rfl) fun y5 hy5 => SlIs.fL ht hAD len_Literal (by omega) rfl hlt2 (f := fun y => y.Args) (fun _ => rfl) fun y6 hy6 => ?_
      exact SameExprs_ok hy5.2.2 hy6.2.2 hAD ⟨Heap.le.refl _, rfl, n2 j2 h nsm⟩
    rw [← LiV.eq_iff] at hb
    refine ift.of (fun h => ?_) (fun h => ?_)
    · rw [sm_no (get_ne hlt hlt2 (hb.1 h))] at k; exact ⟨H, Gh.le hD, k⟩
    · exact hJ hlt _ hD (take_eq hlt hlt2 hh (n3 hb h))
  · have hie : i = l.length := by have := of_decide_eq_false h; omega
    rw [sm_yes (take_all hie hq hh)] at k
    exact ⟨H, Gh.le hD, k⟩
theorem SameRule_ok {v w : RuV} {x y : T_api_Rule} {K : Bool → Heap → Prop} (hx : RuIs A v x) (hy : RuIs A w y) (hA : A.le H) (k : K (sm v w) H) : c_ref06_SameRule C x y K H := by
  apply c_ref06_SameRule.gh
  apply ad_ref06_SameRule
  unfold sh_ref06_SameRule
  refine box2 fun b1 b3 H4 hle h1 h3 => fS h1 rfl (fS h3 rfl ?_)
  have hA4 := hA.trans hle
  refine jb (P := v.r = w.r ∧ v.a = w.a) H4 ?_ fun b9 hb9 => ?_
  · have i1 := sq hx.1 hy.1
    exact ift.of (fun h => fL h1 rfl (fL h3 rfl (SameExprs_ok hx.2.1 hy.2.1 hA4 ⟨rfl, yand i1 h sm_t⟩))) (fun h => ⟨rfl, nand i1 h⟩)
  refine jb (P := (v.r = w.r ∧ v.a = w.a) ∧ v.g = w.g) H4 ?_ fun b18 hb18 => ?_
  · exact ift.of (fun h => fL h1 rfl (fL h3 rfl (SameTexts_ok hx.2.2.1 hy.2.2.1 hA4 ⟨rfl, yand hb9 h sm_t⟩))) (fun h => ⟨rfl, nand hb9 h⟩)
  refine jb (P := v = w) H4 ?_ fun b hb => ⟨H, Gh.le hle, by rw [sm_of hb]; exact k⟩
  rw [RuV.eq_iff]
  exact ift.of (fun h => fL h1 rfl (fL h3 rfl (SameBody_ok hx.2.2.2 hy.2.2.2 hA4 ⟨rfl, yand hb18 h sm_t⟩))) (fun h => ⟨rfl, nand hb18 h⟩)
theorem sameTypeDef_ok {v w : TdV} {x y : T_api_TypeDef} {K : Bool → Heap → Prop} (hx : TdIs A v x) (hy : TdIs A w y) (hA : A.le H) (k : K (sm v w) H) : c_ref06_sameTypeDef C x y K H := by
  apply c_ref06_sameTypeDef.gh
  apply ad_ref06_sameTypeDef
  unfold sh_ref06_sameTypeDef
  refine box2 fun b1 b3 H4 hle h1 h3 => fB h1 rfl (fB h3 rfl ?_)
  have hA4 := hA.trans hle
  refine jb (P := ¬ (v.p = w.p ∧ v.n = w.n)) H4 ?_ fun b9 hb9 => ?_
  · have i1 := nbq hx.1 hy.1
    exact ift.of (fun h => ⟨rfl, n1 i1 h⟩) (fun h => fS h1 rfl (fS h3 rfl ⟨rfl, n2 i1 h (nsq hx.2.1 hy.2.1)⟩))
  refine jb (P := ¬ ((v.p = w.p ∧ v.n = w.n) ∧ v.ps = w.ps)) H4 ?_ fun b18 hb18 => ?_
  · exact ift.of (fun h => ⟨rfl, n1 hb9 h⟩) (fun h => fL h1 rfl (fL h3 rfl (SameTexts_ok hx.2.2.1 hy.2.2.1 hA4 ⟨rfl, n2 hb9 h nsm⟩)))
  refine jb (P := ¬ (((v.p = w.p ∧ v.n = w.n) ∧ v.ps = w.ps) ∧ v.cs.length = w.cs.length)) H4 ?_ fun b29 hb29 => ?_
  · exact ift.of (fun h => ⟨rfl, n1 hb18 h⟩) (fun h => fL h1 rfl (fL h3 rfl ⟨rfl, n2 hb18 h (nlen hx.2.2.2 hy.2.2.2)⟩))
  refine ift.of (fun h => ?_) (fun h => ?_)
  · rw [sm_no (fun e => hb29.1 h (by subst e; exact ⟨⟨⟨rfl, rfl⟩, rfl⟩, rfl⟩))] at k; exact ⟨H, Gh.le hle, k⟩
  have hq := n3 hb29 h
  have hs := hx.2.2.2
  have ht := hy.2.2.2
  refine lpEq (l := v.cs) (m := w.cs) hs.bd fun i D J hD hi hh hJ => ?_
  refine fL (hD _ _ h1) rfl ?_
  rw [hs.len]
  refine ift.of (fun h => ?_) (fun h => ?_)
  · have hlt : i < v.cs.length := by have := of_decide_eq_true h; omega
    have hlt2 : i < w.cs.length := by omega
    have hAD := hA4.trans hD
    refine jb (P := ¬ (v.cs[i].n = w.cs[i].n ∧ v.cs[i].f = w.cs[i].f)) D ?_ fun b hb => ?_
    · refine ⟨D, Heap.le.refl _, fL (hD _ _ h1) rfl (SlIs.fS hs hAD len_ConsDef (by omega) rfl hlt (f := fun y => y.Name) (fun _ => rfl) fun y1 hy1 => fL (hD _ _ h3) rfl (SlIs.fS ht hAD len_ConsDef (by omega) rfl hlt2 (f := fun y => y.Name) (fun _ => rfl) fun y2 hy2 => ?_))⟩
      have j1 := nsq hy1.1 hy2.1
      refine ift.of (fun h => ⟨rfl, n1 j1 h⟩) fun h => ?_
      refine fL (hD _ _ h1) rfl (SlIs.fL hs hAD len_ConsDef (by omega) rfl hlt (f := fun y => y.Fields) (fun _ => rfl) fun y3 hy3 => fL (hD _ _ h3) rfl (SlIs.fL ht hAD len_ConsDef (by omega) rfl hlt2 (f := fun y => y.Fields) (fun _ => rfl) fun y4 hy4 => ?_))
      exact SameFields_ok hy3.2 hy4.2 hAD ⟨Heap.le.refl _, rfl, n2 j1 h nsm⟩
    rw [← CnV.eq_iff] at hb
    refine ift.of (fun h => ?_) (fun h => ?_)
    · rw [sm_no (fun e => get_ne hlt hlt2 (hb.1 h) (by rw [e]))] at k; exact ⟨H, Gh.le (hle.trans hD), k⟩
    · exact hJ hlt _ hD (take_eq hlt hlt2 hh (n3 hb h))
  · have hie : i = v.cs.length := by have := of_decide_eq_false h; omega
    rw [sm_yes (TdV.eq_iff.2 ⟨hq.1, take_all hie hq.2 hh⟩)] at k
    exact ⟨H, Gh.le (hle.trans hD), k⟩
end
end Sx
end

